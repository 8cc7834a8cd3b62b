/-
  The search for culprits: First is fast, Greedy is maximal. Conditions: none.
-/
import Derived.Test.YtmfdikjeijnlmaaBbE
set_option linter.unusedVariables false
set_option maxRecDepth 100000
namespace Go.Proofs.Ytmfdikjeijnlmaa
open Eng
namespace Bb

theorem lc_mem {n : Int} : ∀ {s : List Int} {p : Int}, lc n p s = 0 → ∀ k, k ∈ s → 0 ≤ k ∧ k < n ∧ p < k
  | [], _, _, k, hk => by cases hk
  | a :: t, p, h, k, hk => by
    rw [lc] at h
    split at h
    · omega
    · split at h
      · omega
      · rcases List.mem_cons.mp hk with e | e
        · omega
        · have := lc_mem h k e; omega

theorem lc_of {n : Int} : ∀ {s : List Int} {p : Int}, (∀ k, k ∈ s → 0 ≤ k ∧ k < n ∧ p < k) → s.Pairwise (· < ·) → lc n p s = 0
  | [], _, _, _ => rfl
  | a :: t, p, h, hp => by
    have ha := h a (by simp)
    rw [lc, if_neg (by omega), if_neg (by omega)]
    have hq := List.pairwise_cons.mp hp
    refine lc_of (fun k hk => ?_) hq.2
    have := h k (by simp [hk]); have := hq.1 k hk; omega

theorem cf_ok {n : Int} : ∀ {cs : List (List Int)} {i : Int}, (cf n i cs).1 = 0 → ∀ s, s ∈ cs → s ≠ [] ∧ lc n (-1) s = 0
  | [], _, _, s, hs => by cases hs
  | a :: t, i, h, s, hs => by
    rw [cf] at h
    split at h
    · cases h
    · split at h
      · rename_i h1 h2; exact absurd h h2
      · rename_i h1 h2
        rcases List.mem_cons.mp hs with e | e
        · subst e; exact ⟨h1, Decidable.of_not_not h2⟩
        · exact cf_ok h s e
theorem cf_zero {n : Int} : ∀ {cs : List (List Int)} {i : Int}, (cf n i cs).1 = 0 → cf n i cs = (0, 0)
  | [], _, _ => rfl
  | a :: t, i, h => by
    rw [cf] at h ⊢
    split at h
    · cases h
    · split at h
      · rename_i h1 h2; exact absurd h h2
      · rename_i h1 h2
        rw [if_neg h1, if_neg h2]; exact cf_zero h

theorem vf_zero {n : Int} {cs : List (List Int)} (h : (vf n cs).1 = 0) : vf n cs = (0, 0) := by
  unfold vf at h ⊢
  split at h
  · cases h
  · rename_i h1
    split at h
    · cases h
    · rename_i h2
      rw [if_neg h1, if_neg h2]; exact cf_zero h

/-- Sets as the package wants them. -/
def good (n : Int) (cs : List (List Int)) : Prop := ∀ s, s ∈ cs → s ≠ [] ∧ ∀ k, k ∈ s → 0 ≤ k ∧ k < n

theorem good_of {n : Int} {cs : List (List Int)} (h : vf n cs = (0, 0)) : good n cs := by
  unfold vf at h
  split at h
  · cases h
  · split at h
    · cases h
    · intro s hs
      have := cf_ok (by rw [h]) s hs
      exact ⟨this.1, fun k hk => by have := lc_mem this.2 k hk; omega⟩

theorem fails_iff {cs : List (List Int)} {m : List Int} : fails cs m = true ↔ ∃ s, s ∈ cs ∧ ∀ k, k ∈ s → k ∈ m := by
  unfold fails has
  simp
theorem failsB_iff {cs : List (List Int)} {n : Int} {m : List Int} : failsB cs n m = true ↔ ∃ s, s ∈ cs ∧ ∀ k, k ∈ s → k < n ∨ k ∈ m := by
  unfold failsB hasB has
  simp

theorem bool_iff {a b : Bool} (h : a = true ↔ b = true) : a = b := by
  cases a <;> cases b <;> simp_all

theorem failsB0 {n : Int} {cs : List (List Int)} (hg : good n cs) (m : List Int) : failsB cs 0 m = fails cs m := by
  apply bool_iff
  rw [failsB_iff, fails_iff]
  constructor
  · rintro ⟨s, hs, h⟩
    exact ⟨s, hs, fun k hk => (h k hk).resolve_left (by have := (hg s hs).2 k hk; omega)⟩
  · rintro ⟨s, hs, h⟩
    exact ⟨s, hs, fun k hk => .inr (h k hk)⟩

theorem failsB_iota {n : Int} {cs : List (List Int)} (hg : good n cs) (m : Nat) : fails cs (iota m) = failsB cs m [] := by
  apply bool_iff
  rw [failsB_iff, fails_iff]
  constructor
  · rintro ⟨s, hs, h⟩
    exact ⟨s, hs, fun k hk => .inl (mem_iota.mp (h k hk)).2⟩
  · rintro ⟨s, hs, h⟩
    exact ⟨s, hs, fun k hk => mem_iota.mpr ⟨((hg s hs).2 k hk).1, (h k hk).resolve_right (by simp)⟩⟩

theorem fails_nil {n : Int} {cs : List (List Int)} (hg : good n cs) : fails cs [] = false := by
  cases e : fails cs [] with
  | false => rfl
  | true =>
    obtain ⟨s, hs, h⟩ := fails_iff.mp e
    cases s with
    | nil => exact absurd rfl (hg _ hs).1
    | cons a t => exact absurd (h a (by simp)) (by simp)

theorem iota_sorted : ∀ n, (iota n).Pairwise (· < ·)
  | 0 => List.Pairwise.nil
  | n + 1 => by
    rw [iota, List.pairwise_append]
    refine ⟨iota_sorted n, List.pairwise_singleton _ _, fun a ha b hb => ?_⟩
    have := mem_iota.mp ha
    rw [List.mem_singleton] at hb
    omega

theorem lc_iota {n : Int} {m : Nat} (h : (m : Int) ≤ n) : lc n (-1) (iota m) = 0 :=
  lc_of (fun k hk => by have := mem_iota.mp hk; omega) (iota_sorted m)

theorem bs_inv {p : Int → Bool} : ∀ (fu j : Nat) (low high : Int) (t : List Int), 0 ≤ low → low < high → high - low ≤ fu + 1 → high - low ≤ 2 ^ j → p low = false → p high = true →
    low < (bs p fu low high t).1 ∧ (bs p fu low high t).1 ≤ high ∧ p (bs p fu low high t).1 = true ∧ p ((bs p fu low high t).1 - 1) = false ∧ t.length ≤ (bs p fu low high t).2.length ∧ (bs p fu low high t).2.length ≤ t.length + j
  | 0, j, low, high, t, h0, h1, h2, h3, hl, hh => by
    rw [bs]
    have : high - 1 = low := by omega
    exact ⟨h1, Int.le_refl _, hh, (congrArg p this).trans hl, Nat.le_refl _, Nat.le_add_right _ _⟩
  | fu + 1, 0, low, high, t, h0, h1, h2, h3, hl, hh => by
    rw [bs, if_neg (by simp at h3; omega)]
    have : high - 1 = low := by simp at h3; omega
    exact ⟨h1, Int.le_refl _, hh, (congrArg p this).trans hl, Nat.le_refl _, Nat.le_add_right _ _⟩
  | fu + 1, j + 1, low, high, t, h0, h1, h2, h3, hl, hh => by
    rw [bs]
    by_cases g : high - low > 1
    · rw [if_pos g]
      have hm := mid h0 g
      have hp : (2 : Int) ^ (j + 1) = 2 * 2 ^ j := by rw [Int.pow_succ]; omega
      have hk : 2 * ((low + high).tdiv 2) ≤ low + high ∧ low + high ≤ 2 * ((low + high).tdiv 2) + 1 := by
        rw [Int.tdiv_eq_ediv_of_nonneg (by omega)]; omega
      have hp1 : (2 : Int) ^ j ≥ 1 := by
        have := Nat.two_pow_pos j
        have h2 : ((2 ^ j : Nat) : Int) = (2 : Int) ^ j := by simp
        omega
      have hev : j = 0 ∨ ∃ q : Int, (2 : Int) ^ j = 2 * q := by
        cases j with
        | zero => exact .inl rfl
        | succ i => exact .inr ⟨2 ^ i, by rw [Int.pow_succ]; omega⟩
      cases e : p ((low + high).tdiv 2) with
      | true =>
        obtain ⟨a1, a2, a3, a4, a5, a6⟩ := bs_inv (p := p) fu j low ((low + high).tdiv 2) (t ++ [(low + high).tdiv 2]) h0 hm.1 (by omega) (by omega) hl e
        simp only [List.length_append, List.length_singleton] at a5 a6
        simp only [cond_true]
        exact ⟨by omega, by omega, a3, a4, by omega, by omega⟩
      | false =>
        obtain ⟨a1, a2, a3, a4, a5, a6⟩ := bs_inv (p := p) fu j ((low + high).tdiv 2) high (t ++ [(low + high).tdiv 2]) (by omega) hm.2 (by omega) (by omega) e hh
        simp only [List.length_append, List.length_singleton] at a5 a6
        simp only [cond_false]
        exact ⟨by omega, by omega, a3, a4, by omega, by omega⟩
    · rw [if_neg g]
      have : high - 1 = low := by omega
      exact ⟨h1, Int.le_refl _, hh, (congrArg p this).trans hl, Nat.le_refl _, Nat.le_add_right _ _⟩

theorem failsB_none {n : Int} {cs : List (List Int)} (hg : good n cs) : failsB cs 0 [] = false := by rw [failsB0 hg]; exact fails_nil hg

theorem fast_true (n : Int) (cs : List (List Int)) (hs : ∀ s, s ∈ cs → big s.length) (K : Bool → Prop) (hK : K true) : L.law8_BatchbisectFirstIsFast n cs K := by
  constructor
  unfold L.law8_BatchbisectFirstIsFast_B
  by_cases hv : vf n cs = (0, 0)
  · have hn := vf_len hv
    have hg := good_of hv
    cases hf : failsB cs n [] with
    | false => exact First_none hs hv hf (example_ok (cond_f rfl (cond_t rfl hK)))
    | true =>
      refine First_ok hs hv hf (example_ok (cond_f rfl (cond_f rfl ?_)))
      have hn1 : 0 < n := by
        rcases Int.lt_or_le 0 n with h | h
        · exact h
        · rw [show n = 0 from by omega, failsB_none hg] at hf; cases hf
      obtain ⟨a1, a2, a3, a4, a5, a6⟩ := bs_inv (p := fun k => failsB cs k []) 16 4 0 n [n] (by omega) hn1 (by omega) (by simp; omega) (failsB_none hg) hf
      rw [show bs (fun k => failsB cs k []) 16 0 n [n] = halves (fun k => failsB cs k []) n from rfl] at a1 a2 a3 a4 a5 a6
      generalize halves (fun k => failsB cs k []) n = h at *
      obtain ⟨c, t⟩ := h
      simp only at a1 a2 a3 a4 a5 a6 ⊢
      rw [i64_id (n := c - 1) (by omega) (by omega), i64_id (by omega) (by omega)]
      refine cond_f (by simp only [bor, Bool.or_eq_false_iff, decide_eq_false_iff_not]; omega) ?_
      rw [show c - 1 + 1 = ((c.toNat : Nat) : Int) from by omega, show c - 1 = (((c - 1).toNat : Nat) : Int) from by omega]
      refine rFirst_ok (by omega) (Fails_ok hs (by unfold big; rw [iota_len]; omega) hv (lc_iota (by omega)) (rFirst_ok (by omega) (Fails_ok hs (by unfold big; rw [iota_len]; omega) hv (lc_iota (by omega)) ?_)))
      rw [failsB_iota hg, failsB_iota hg, show ((c.toNat : Nat) : Int) = c from by omega, show (((c - 1).toNat : Nat) : Int) = c - 1 from by omega, a3, a4]
      simp only [List.length_singleton] at a5 a6
      refine Eq.mpr (congrArg K ?_) hK
      rw [decide_eq_true (p := ((t.length : Int) ≥ 1)) (by omega), decide_eq_true (p := ((t.length : Int) ≤ 5)) (by omega)]
      rfl
  · exact First_bad hs hv (example_ok (cond_f rfl (cond_t (by
      have : (vf n cs).1 ≠ 0 := fun h => hv (vf_zero h)
      simpa using this) hK)))

end Bb

theorem BatchbisectFirstIsFast_true (xs : ArgDen [(false, (.int .i64)), (false, (.slice (.slice (.int .i64))))]) (hw : WfAll _ xs) (K : Bool → Prop) (hK : K true) : L.law8_BatchbisectFirstIsFast xs.1 xs.2.1 K :=
  Bb.fast_true _ _ (fun s hs => Bb.big_of (hw.2.1.2 s hs).1) K hK
end Go.Proofs.Ytmfdikjeijnlmaa

/-
  CanaryWorseIsLessProbable, CanarySidesAreSymmetric, CanaryToleranceIsExact, CanaryStricterToleratesLess, as plain laws about the lifted functions. Conditions: none.
-/
import Derived.Test.YtiffkkebibddbaaCanS
import Derived.Test.YtiffkkebibddbaaEngV
namespace Go.Proofs.Ytiffkkebibddbaa
open Eng
namespace Can

theorem okC_nat {a b : Int} (h : okC a b) : ∃ g d : Nat, a = g ∧ b = d ∧ g + d ≤ 25 := by
  unfold okC at h
  obtain ⟨g, rfl⟩ := Int.eq_ofNat_of_zero_le h.1
  obtain ⟨d, rfl⟩ := Int.eq_ofNat_of_zero_le h.2.1
  exact ⟨g, d, rfl, rfl, by omega⟩

/-- A comparison's fraction, or a fault. -/
theorem Tail_any {a b c d : Int} {K : Int → Int → Int → Int → Prop} (h1 : (¬ okC a b ∨ ¬ okC c d) → ∀ i : Int, K 0 0 3 i)
    (h2 : ∀ g1 b1 g2 b2 : Nat, a = g1 → b = b1 → c = g2 → d = b2 → g1 + b1 ≤ 25 → g2 + b2 ≤ 25 → K (C (b1 + b2 + (g1 + g2)) (g2 + b2) - W (b1 + b2) (g1 + g2) (g2 + b2) b2) (C (b1 + b2 + (g1 + g2)) (g2 + b2)) 0 0) : L.canary_Tail a b c d K := by
  by_cases k1 : okC a b
  · by_cases k2 : okC c d
    · obtain ⟨g1, b1, rfl, rfl, e1⟩ := okC_nat k1
      obtain ⟨g2, b2, rfl, rfl, e2⟩ := okC_nat k2
      exact Tail_ok g1 b1 g2 b2 e1 e2 (h2 g1 b1 g2 b2 rfl rfl rfl rfl e1 e2)
    · exact Tail_bad2 k1 k2 (h1 (.inr k2) _)
  · exact Tail_bad1 k1 (h1 (.inl k1) _)

theorem worse_true (dG dB iG iB : Int) (K : Bool → Prop) (hK : K true) : L.law8_CanaryWorseIsLessProbable dG dB iG iB K := by
  have fin : ∀ b : Bool, b = true → K b := fun b h => by rw [h]; exact hK
  constructor
  unfold L.law8_CanaryWorseIsLessProbable_B
  refine Tail_any (fun _ i => ?_) (fun g1 b1 g2 b2 e1 e2 e3 e4 h1 h2 => ?_)
  · refine Tail_any (fun _ i => ?_) (fun _ _ _ _ _ _ _ _ _ _ => ?_) <;> refine Tail_any (fun _ i => ?_) (fun _ _ _ _ _ _ _ _ _ _ => ?_) <;> exact example_ok (cond_f rfl (cond_t rfl hK))
  subst e1 e2 e3 e4
  rw [i64_id (n := (g2 : Int) - 1) (by omega) (by omega), i64_id (n := (b2 : Int) + 1) (by omega) (by omega), i64_id (n := (g1 : Int) - 1) (by omega) (by omega), i64_id (n := (b1 : Int) + 1) (by omega) (by omega)]
  have hterm := W_term (b1 + b2) (g1 + g2) (g2 + b2) b2 (by omega) (by omega) (by omega)
  have hle := W_le (b1 + b2) (g1 + g2) (g2 + b2) (b2 + 1) (by omega)
  generalize hA : C (b1 + b2 + (g1 + g2)) (g2 + b2) = A at *
  generalize hX : W (b1 + b2) (g1 + g2) (g2 + b2) b2 = X at *
  -- the second comparison
  have key : ∀ (r2 r3 f1 : Int), (f1 = 0 → r3 = A ∧ r2 ≤ A - X) → ∀ (r4 r5 f2 : Int), (f2 = 0 → r5 = A ∧ r4 ≥ A - X) →
      L.law8_canaryExample (fun r6 => (bif (!r6) then K false else (bif ((0 : Int) != 0) then K true else (bif (bif (bif (decide ((A : Int) ≤ 0)) then true else (decide ((A : Int) - X ≤ 0))) then true else (decide ((A : Int) - X > A))) then K false else
        K (bif (bif (f1 != 0) then true else (bif ((A : Int) == r3) then (decide (r2 ≤ (A : Int) - X)) else false)) then (bif (f2 != 0) then true else (bif ((A : Int) == r5) then (decide (r4 ≥ (A : Int) - X)) else false)) else false))))) := by
    intro r2 r3 f1 k1 r4 r5 f2 k2
    refine example_ok (cond_f rfl (cond_f rfl (cond_f ?_ (fin _ ?_))))
    · simp [bor]; omega
    · simp only [bor, band, Bool.and_eq_true, Bool.or_eq_true, bne_iff_ne, ne_eq, beq_iff_eq, decide_eq_true_eq]
      refine ⟨?_, ?_⟩
      · by_cases e : f1 = 0
        · exact .inr ⟨(k1 e).1.symm, (k1 e).2⟩
        · exact .inl e
      · by_cases e : f2 = 0
        · exact .inr ⟨(k2 e).1.symm, (k2 e).2⟩
        · exact .inl e
  have two : ∀ (r2 r3 f1 : Int), (f1 = 0 → r3 = A ∧ r2 ≤ A - X) → L.canary_Tail ((g1 : Int) - 1) ((b1 : Int) + 1) g2 b2 (fun r4 r5 rCode2 rIndex2 => L.law8_canaryExample (fun r6 => (bif (!r6) then K false else (bif ((0 : Int) != 0) then K true else (bif (bif (bif (decide ((A : Int) ≤ 0)) then true else (decide ((A : Int) - X ≤ 0))) then true else (decide ((A : Int) - X > A))) then K false else
        K (bif (bif (f1 != 0) then true else (bif ((A : Int) == r3) then (decide (r2 ≤ (A : Int) - X)) else false)) then (bif (rCode2 != 0) then true else (bif ((A : Int) == r5) then (decide (r4 ≥ (A : Int) - X)) else false)) else false)))))) := by
    intro r2 r3 f1 k1
    refine Tail_any (fun _ i => key r2 r3 f1 k1 _ _ _ (fun e => by cases e)) (fun g1' b1' g2' b2' e1 e2 e3 e4 _ _ => key r2 r3 f1 k1 _ _ _ (fun _ => ?_))
    obtain rfl : g2' = g2 := by omega
    obtain rfl : b2' = b2 := by omega
    obtain rfl : b1' = b1 + 1 := by omega
    obtain rfl : g1 = g1' + 1 := by omega
    have hb := W_base (b1 + b2') (g1' + g2') (g2' + b2') b2' (by omega)
    rw [show b1 + b2' + 1 = b1 + 1 + b2' from by omega, show g1' + g2' + 1 = g1' + 1 + g2' from by omega, hX] at hb
    have hAA : C (b1 + 1 + b2' + (g1' + g2')) (g2' + b2') = A := by rw [← hA]; congr 1; omega
    rw [hAA]
    exact ⟨rfl, by omega⟩
  refine Tail_any (fun _ i => two _ _ _ (fun e => by cases e)) (fun g1' b1' g2' b2' e1 e2 e3 e4 _ _ => two _ _ _ (fun _ => ?_))
  obtain rfl : g1' = g1 := by omega
  obtain rfl : b1' = b1 := by omega
  obtain rfl : b2' = b2 + 1 := by omega
  obtain rfl : g2 = g2' + 1 := by omega
  have hb := W_worse (b1' + b2) (g1' + g2') (g2' + 1 + b2) b2 (by omega) (by omega)
  rw [show g1' + g2' + 1 = g1' + (g2' + 1) from by omega, hX, show b1' + b2 + 1 = b1' + (b2 + 1) from by omega] at hb
  have hAA : C (b1' + (b2 + 1) + (g1' + g2')) (g2' + (b2 + 1)) = A := by rw [← hA]; congr 1 <;> omega
  rw [hAA, show g2' + (b2 + 1) = g2' + 1 + b2 from by omega]
  exact ⟨rfl, by omega⟩

theorem sides_true (dG dB iG iB : Int) (K : Bool → Prop) (hK : K true) : L.law8_CanarySidesAreSymmetric dG dB iG iB K := by
  have fin : ∀ b : Bool, b = true → K b := fun b h => by rw [h]; exact hK
  constructor
  unfold L.law8_CanarySidesAreSymmetric_B
  refine Tail_any (fun _ i => ?_) (fun g1 b1 g2 b2 e1 e2 e3 e4 h1 h2 => ?_)
  · refine Tail_any (fun _ i => ?_) (fun _ _ _ _ _ _ _ _ _ _ => ?_) <;> refine Tail_any (fun _ i => ?_) (fun _ _ _ _ _ _ _ _ _ _ => ?_) <;> exact example_ok (cond_f rfl (cond_t rfl hK))
  subst e1 e2 e3 e4
  refine Tail_ok b2 g2 b1 g1 (by omega) (by omega) (Tail_ok b1 g1 b2 g2 (by omega) (by omega) (example_ok (cond_f rfl (cond_f rfl (fin _ ?_)))))
  have s1 : C (g2 + g1 + (b2 + b1)) (b1 + g1) = C (b1 + b2 + (g1 + g2)) (g2 + b2) := by
    rw [show g2 + g1 + (b2 + b1) = b1 + b2 + (g1 + g2) from by omega, ← C_symm _ (b1 + g1) (by omega)]
    congr 1; omega
  have s2 : C (g1 + g2 + (b1 + b2)) (b2 + g2) = C (b1 + b2 + (g1 + g2)) (g2 + b2) := by
    rw [show g1 + g2 + (b1 + b2) = b1 + b2 + (g1 + g2) from by omega, Nat.add_comm b2 g2]
  have hbound := C_le50 (b1 + b2 + (g1 + g2)) (g2 + b2) (by omega)
  -- the three tails, from the other end
  have r1 := W_rev (b1 + b2) (g1 + g2) (g2 + b2) b2 (by omega)
  have r2 := W_rev (g2 + g1) (b2 + b1) (b1 + g1) g1 (by omega)
  have r3 := W_rev (g1 + g2) (b1 + b2) (b2 + g2) g2 (by omega)
  rw [show g2 + b2 + 1 - b2 = g2 + 1 from by omega] at r1
  rw [show b1 + g1 + 1 - g1 = b1 + 1 from by omega, s1] at r2
  rw [show b2 + g2 + 1 - g2 = b2 + 1 from by omega, s2] at r3
  have side : W (g1 + g2) (b1 + b2) (g2 + b2) (g2 + 1) = W (b2 + b1) (g2 + g1) (b1 + g1) (b1 + 1) := by
    rcases Nat.le_total g2 b1 with g | g
    · have := W_side (b1 + b2) (g1 + g2) (g2 + b2) (b1 - g2) (by omega) (g2 + 1) (by omega) (by omega)
      rw [show g1 + g2 + (b1 - g2) = b1 + g1 from by omega, show g2 + 1 + (b1 - g2) = b1 + 1 from by omega] at this
      rw [this, Nat.add_comm b2 b1, Nat.add_comm g2 g1]
    · have := W_side (g1 + g2) (b1 + b2) (b1 + g1) (g2 - b1) (by omega) (b1 + 1) (by omega) (by omega)
      rw [show b1 + b2 + (g2 - b1) = g2 + b2 from by omega, show b1 + 1 + (g2 - b1) = g2 + 1 from by omega] at this
      rw [← this, Nat.add_comm b2 b1, Nat.add_comm g2 g1]
  have hterm := W_term (b1 + b2) (g1 + g2) (g2 + b2) b2 (by omega) (by omega) (by omega)
  have hle := W_le (b1 + b2) (g1 + g2) (g2 + b2) (b2 + 1) (by omega)
  rw [Nat.add_comm b2 g2] at r3 ⊢
  rw [s1]
  have s2' : C (g1 + g2 + (b1 + b2)) (g2 + b2) = C (b1 + b2 + (g1 + g2)) (g2 + b2) := by
    rw [show g1 + g2 + (b1 + b2) = b1 + b2 + (g1 + g2) from by omega]
  rw [s2']
  rw [side] at r1
  generalize C (b1 + b2 + (g1 + g2)) (g2 + b2) = A at *
  rw [i64_id (by omega) (by omega)]
  simp only [band, Bool.and_eq_true, beq_iff_eq, decide_eq_true_eq, and_true]
  omega

/-- Failing is monotone in the number of bad samples. -/
theorem fl_bad (g b s j : Nat) (m : Int) (h1 : g + b ≤ 25) (h2 : j + 1 ≤ s) (h : fl g b (s - j) j m = true) : fl g b (s - (j + 1)) (j + 1) m = true := by
  unfold fl at h ⊢
  simp only [decide_eq_true_eq] at h ⊢
  have hw := W_worse (b + j) (g + (s - (j + 1))) s j (by omega) (by omega)
  have e1 : C (b + (j + 1) + (g + (s - (j + 1)))) (s - (j + 1) + (j + 1)) = C (b + j + (g + (s - j))) (s - j + j) := by congr 1 <;> omega
  rw [e1, show s - (j + 1) + (j + 1) = s from by omega]
  rw [show s - j + j = s from by omega] at h ⊢
  rw [show g + (s - (j + 1)) + 1 = g + (s - j) from by omega, show b + j + 1 = b + (j + 1) from by omega] at hw
  omega

theorem fl_zero (g b s : Nat) (m : Int) (h1 : g + b ≤ 25) (h2 : s ≤ 25) (h3 : m < 1000) : fl g b s 0 m = false := by
  unfold fl
  rw [decide_eq_false_iff_not]
  have hp := C_pos (b + 0 + (g + s)) (s + 0) (by omega)
  simp only [W]
  generalize C (b + 0 + (g + s)) (s + 0) = A at *
  intro hh
  have : m * (A : Int) ≤ 999 * A := Int.mul_le_mul_of_nonneg_right (by omega) (by omega)
  omega

theorem most_lt (g b s : Nat) (m : Int) : ∀ j : Nat, most g b s m j ≤ j - 1
  | 0 => by simp [most]
  | j + 1 => by
    have := most_lt g b s m j
    unfold most
    cases fl g b (s - j) j m <;> simp <;> omega

theorem most_fails (g b s : Nat) (m : Int) : ∀ j k : Nat, most g b s m j < k → k < j → fl g b (s - k) k m = true
  | 0, k, _, h => by omega
  | j + 1, k, h1, h2 => by
    unfold most at h1
    cases hf : fl g b (s - j) j m with
    | false => rw [hf] at h1; simp at h1; omega
    | true =>
      rw [hf] at h1
      simp at h1
      rcases Nat.lt_or_ge k j with hk | hk
      · exact most_fails g b s m j k h1 hk
      · obtain rfl : k = j := by omega
        exact hf

theorem most_passes (g b s : Nat) (m : Int) (h1 : g + b ≤ 25) (h2 : s ≤ 25) (h3 : m < 1000) : ∀ j : Nat, fl g b (s - most g b s m j) (most g b s m j) m = false
  | 0 => by simp [most]; exact fl_zero g b s m h1 h2 h3
  | j + 1 => by
    unfold most
    cases hf : fl g b (s - j) j m with
    | false => simpa using hf
    | true => simpa using most_passes g b s m h1 h2 h3 j

/-- Below the largest number that is no failure there is no failure. -/
theorem fl_down (g b s : Nat) (m : Int) (h1 : g + b ≤ 25) : ∀ (d k : Nat), k + d ≤ s → fl g b (s - (k + d)) (k + d) m = false → fl g b (s - k) k m = false
  | 0, k, _, h => h
  | d + 1, k, hs, h => by
    refine fl_down g b s m h1 d k (by omega) ?_
    cases hf : fl g b (s - (k + d)) (k + d) m with
    | false => rfl
    | true =>
      have := fl_bad g b s (k + d) m h1 (by omega) hf
      rw [show k + d + 1 = k + (d + 1) from by omega, h] at this
      cases this

theorem Tol_any {a b s m : Int} {K : Int → Int → Int → Prop} (h1 : ∀ i : Int, K 0 3 i) (h2 : ∀ g d n : Nat, a = g → b = d → s = n → g + d ≤ 25 → n ≤ 25 → 0 ≤ m → m < 1000 → K (most g d n m (n + 1)) 0 0) : L.canary_Tolerated a b s m K := by
  by_cases k1 : okC a b
  · by_cases k2 : 0 ≤ s ∧ s ≤ 25
    · by_cases k3 : 0 ≤ m ∧ m < 1000
      · obtain ⟨g, d, rfl, rfl, e1⟩ := okC_nat k1
        obtain ⟨n, rfl⟩ := Int.eq_ofNat_of_zero_le k2.1
        exact Tol_ok g d n m e1 (by omega) k3.1 k3.2 (h2 g d n rfl rfl rfl e1 (by omega) k3.1 k3.2)
      · exact Tol_bad3 k1 k2 k3 (h1 _)
    · exact Tol_bad2 k1 k2 (h1 _)
  · exact Tol_bad1 k1 (h1 _)

theorem Decide_any {a b c d n m : Int} {K : Int → Int → Int → Prop} (h1 : ∀ i : Int, K 0 3 i)
    (h2 : ∀ g1 b1 g2 b2 : Nat, a = g1 → b = b1 → c = g2 → d = b2 → g1 + b1 ≤ 25 → g2 + b2 ≤ 25 → 0 ≤ n → n ≤ 25 → 0 ≤ m → m < 1000 → K (vdt g1 b1 g2 b2 n m) 0 0) : L.canary_Decide a b c d n m K := by
  by_cases k1 : okC a b
  · by_cases k2 : okC c d
    · by_cases k3 : 0 ≤ n ∧ n ≤ 25 ∧ 0 ≤ m ∧ m < 1000
      · obtain ⟨g1, b1, rfl, rfl, e1⟩ := okC_nat k1
        obtain ⟨g2, b2, rfl, rfl, e2⟩ := okC_nat k2
        exact Decide_ok g1 b1 g2 b2 n m e1 e2 k3.1 k3.2.1 k3.2.2.1 k3.2.2.2 (h2 g1 b1 g2 b2 rfl rfl rfl rfl e1 e2 k3.1 k3.2.1 k3.2.2.1 k3.2.2.2)
      · exact Decide_bad3 k1 k2 k3 (h1 _)
    · exact Decide_bad2 k1 k2 (h1 _)
  · exact Decide_bad1 k1 (h1 _)

theorem vdt_fail (g1 b1 g2 b2 : Nat) (n m : Int) : (vdt g1 b1 g2 b2 n m == 3) = fl g1 b1 g2 b2 m := by
  unfold vdt
  cases fl g1 b1 g2 b2 m
  · cases decide (((g2 + b2 : Nat) : Int) < n) <;> rfl
  · rfl

theorem most_iff (g b s k : Nat) (m : Int) (h1 : g + b ≤ 25) (h2 : s ≤ 25) (h3 : m < 1000) (hk : k ≤ s) : fl g b (s - k) k m = decide ((k : Int) > most g b s m (s + 1)) := by
  have hlt := most_lt g b s m (s + 1)
  have hp := most_passes g b s m h1 h2 h3 (s + 1)
  rcases Nat.lt_or_ge (most g b s m (s + 1)) k with g' | g'
  · rw [most_fails g b s m (s + 1) k g' (by omega)]
    exact (decide_eq_true (by omega)).symm
  · rw [decide_eq_false (by omega)]
    refine fl_down g b s m h1 (most g b s m (s + 1) - k) k (by omega) ?_
    rwa [show k + (most g b s m (s + 1) - k) = most g b s m (s + 1) from by omega]

theorem exact_true (dG dB s bad m : Int) (hs : -9223372036854775808 ≤ s) (K : Bool → Prop) (hK : K true) : L.law8_CanaryToleranceIsExact dG dB s bad m K := by
  have fin : ∀ b : Bool, b = true → K b := fun b h => by rw [h]; exact hK
  constructor
  unfold L.law8_CanaryToleranceIsExact_B
  refine Tol_any (fun i => ?_) (fun g b n e1 e2 e3 h1 h2 h3 h4 => ?_)
  · refine Decide_any (fun i => ?_) (fun _ _ _ _ _ _ _ _ _ _ _ _ _ _ => ?_) <;> exact example_ok (cond_f rfl (fin _ (by simp)))
  refine Decide_any (fun i => ?_) (fun g1 b1 g2 b2 e4 e5 e6 e7 k1 k2 _ _ _ _ => ?_)
  · exact example_ok (cond_f rfl (fin _ (by simp)))
  subst e1 e2 e3 e7
  obtain rfl : g1 = g := by omega
  obtain rfl : b1 = b := by omega
  rw [i64_id (by omega) (by omega)] at e6
  obtain rfl : g2 = n - b2 := by omega
  refine example_ok (cond_f rfl (fin _ ?_))
  rw [vdt_fail, most_iff g1 b1 n b2 m h1 h2 h4 (by omega)]
  simp

theorem fl_mille (g1 b1 g2 b2 : Nat) {m m' : Int} (h : m ≤ m') (hf : fl g1 b1 g2 b2 m = true) : fl g1 b1 g2 b2 m' = true := by
  unfold fl at hf ⊢
  simp only [decide_eq_true_eq] at hf ⊢
  exact Int.le_trans hf (Int.mul_le_mul_of_nonneg_right h (by omega))

theorem fl_base (g b s k : Nat) (m : Int) (hk : k ≤ s) (hf : fl g (b + 1) (s - k) k m = true) : fl (g + 1) b (s - k) k m = true := by
  unfold fl at hf ⊢
  simp only [decide_eq_true_eq] at hf ⊢
  have hw := W_base (b + k) (g + (s - k)) s k hk
  rw [show s - k + k = s from by omega] at hf ⊢
  rw [show b + k + 1 = b + 1 + k from by omega, show g + (s - k) + 1 = g + 1 + (s - k) from by omega] at hw
  have e : C (b + k + (g + 1 + (s - k))) s = C (b + 1 + k + (g + (s - k))) s := by congr 1; omega
  rw [e]
  omega

theorem stricter_true (dG dB s m more : Int) (hG : dG ≤ 9223372036854775807) (hB : -9223372036854775808 ≤ dB) (K : Bool → Prop) (hK : K true) : L.law8_CanaryStricterToleratesLess dG dB s m more K := by
  have fin : ∀ b : Bool, b = true → K b := fun b h => by rw [h]; exact hK
  constructor
  unfold L.law8_CanaryStricterToleratesLess_B
  refine Tol_any (fun i => ?_) (fun g b n e1 e2 e3 h1 h2 h3 h4 => ?_)
  · refine Tol_any (fun i => ?_) (fun _ _ _ _ _ _ _ _ _ _ => ?_) <;> refine Tol_any (fun i => ?_) (fun _ _ _ _ _ _ _ _ _ _ => ?_) <;> exact example_ok (cond_f rfl (cond_t rfl hK))
  subst e1 e2 e3
  rw [i64_id (n := (g : Int) + 1) (by omega) (by omega), i64_id (n := (b : Int) - 1) (by omega) (by omega)]
  have last : ∀ (r1 f1 : Int), (f1 = 0 → more < m ∨ r1 ≤ most g b n m (n + 1)) → L.canary_Tolerated ((g : Int) + 1) ((b : Int) - 1) n m (fun r2 rCode2 rIndex2 => L.law8_canaryExample (fun r3 => (bif (!r3) then K false else (bif ((0 : Int) != 0) then K true else
      K (bif (bif (bif (f1 != 0) then true else (decide (more < m))) then true else (decide (r1 ≤ (most g b n m (n + 1) : Nat)))) then (bif (rCode2 != 0) then true else (decide (r2 ≤ (most g b n m (n + 1) : Nat)))) else false))))) := by
    intro r1 f1 hf
    have fst : (bif (bif (f1 != 0) then true else (decide (more < m))) then true else (decide (r1 ≤ (most g b n m (n + 1) : Nat)))) = true := by
      simp only [bor, Bool.or_eq_true, bne_iff_ne, ne_eq, decide_eq_true_eq]
      by_cases e : f1 = 0
      · rcases hf e with h | h
        · exact .inl (.inr h)
        · exact .inr h
      · exact .inl (.inl e)
    refine Tol_any (fun i => ?_) (fun g' b' n' e1 e2 e3 k1 k2 k3 k4 => ?_)
    · exact example_ok (cond_f rfl (cond_f rfl (fin _ (by rw [fst]; rfl))))
    · refine example_ok (cond_f rfl (cond_f rfl (fin _ ?_)))
      rw [fst]
      obtain rfl : n' = n := by omega
      obtain rfl : g' = g + 1 := by omega
      obtain rfl : b = b' + 1 := by omega
      simp only [cond_true, bor, Bool.or_eq_true, decide_eq_true_eq]
      refine .inr ?_
      have hlt := most_lt (g + 1) b' n' m (n' + 1)
      rcases Nat.lt_or_ge (most g (b' + 1) n' m (n' + 1)) (most (g + 1) b' n' m (n' + 1)) with c | c
      · have f1 := most_fails g (b' + 1) n' m (n' + 1) _ c (by omega)
        have f2 := most_passes (g + 1) b' n' m k1 k2 k4 (n' + 1)
        rw [fl_base g b' n' _ m (by omega) f1] at f2
        cases f2
      · omega
  refine Tol_any (fun i => last _ _ (fun e => by cases e)) (fun g' b' n' e1 e2 e3 k1 k2 k3 k4 => last _ _ (fun _ => ?_))
  obtain rfl : n' = n := by omega
  obtain rfl : g' = g := by omega
  obtain rfl : b' = b := by omega
  by_cases hm : more < m
  · exact .inl hm
  · refine .inr ?_
    have hlt := most_lt g' b' n' more (n' + 1)
    rcases Nat.lt_or_ge (most g' b' n' m (n' + 1)) (most g' b' n' more (n' + 1)) with c | c
    · have f1 := most_fails g' b' n' m (n' + 1) _ c (by omega)
      have f2 := most_passes g' b' n' more k1 k2 k4 (n' + 1)
      rw [fl_mille _ _ _ _ (by omega) f1] at f2
      cases f2
    · omega

end Can

theorem CanaryWorseIsLessProbable_true (xs : ArgDen [(true, (.pair (.int .i64) (.int .i64))), (true, (.pair (.int .i64) (.int .i64)))]) (_ : WfAll _ xs) (K : Bool → Prop) (hK : K true) : L.law8_CanaryWorseIsLessProbable xs.1.1 xs.1.2 xs.2.1.1 xs.2.1.2 K := Can.worse_true _ _ _ _ K hK
theorem CanarySidesAreSymmetric_true (xs : ArgDen [(true, (.pair (.int .i64) (.int .i64))), (true, (.pair (.int .i64) (.int .i64)))]) (_ : WfAll _ xs) (K : Bool → Prop) (hK : K true) : L.law8_CanarySidesAreSymmetric xs.1.1 xs.1.2 xs.2.1.1 xs.2.1.2 K := Can.sides_true _ _ _ _ K hK
theorem CanaryToleranceIsExact_true (xs : ArgDen [(true, (.pair (.int .i64) (.int .i64))), (false, (.int .i64)), (false, (.int .i64)), (false, (.int .i64))]) (hw : WfAll _ xs) (K : Bool → Prop) (hK : K true) : L.law8_CanaryToleranceIsExact xs.1.1 xs.1.2 xs.2.1 xs.2.2.1 xs.2.2.2.1 K :=
  Can.exact_true _ _ _ _ _ hw.2.1.1 K hK
theorem CanaryStricterToleratesLess_true (xs : ArgDen [(true, (.pair (.int .i64) (.int .i64))), (false, (.int .i64)), (false, (.int .i64)), (false, (.int .i64))]) (hw : WfAll _ xs) (K : Bool → Prop) (hK : K true) : L.law8_CanaryStricterToleratesLess xs.1.1 xs.1.2 xs.2.1 xs.2.2.1 xs.2.2.2.1 K :=
  Can.stricter_true _ _ _ _ _ hw.1.1.2 hw.1.2.1 K hK
end Go.Proofs.Ytiffkkebibddbaa

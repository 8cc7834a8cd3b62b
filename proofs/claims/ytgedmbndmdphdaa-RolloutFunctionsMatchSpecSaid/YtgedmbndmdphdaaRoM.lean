/-
  Binomial numbers and the first terms of Vandermonde's sum, in plain arithmetic. Conditions: none.
-/
namespace Go.Proofs.Ytgedmbndmdphdaa
namespace Can

def C : Nat → Nat → Nat
  | _, 0 => 1
  | 0, _ + 1 => 0
  | n + 1, k + 1 => C n k + C n (k + 1)

theorem C_zero (n : Nat) : C n 0 = 1 := by cases n <;> rfl
theorem C_succ (n k : Nat) : C (n + 1) (k + 1) = C n k + C n (k + 1) := rfl

theorem C_big : ∀ (n k : Nat), n < k → C n k = 0
  | 0, k + 1, _ => rfl
  | n + 1, k + 1, h => by rw [C_succ, C_big n k (by omega), C_big n (k + 1) (by omega)]

theorem C_self : ∀ n : Nat, C n n = 1
  | 0 => rfl
  | n + 1 => by rw [C_succ, C_self n, C_big n (n + 1) (by omega)]

theorem C_pos : ∀ (n k : Nat), k ≤ n → 0 < C n k
  | n, 0, _ => by rw [C_zero]; omega
  | n + 1, k + 1, h => by have := C_pos n k (by omega); rw [C_succ]; omega

theorem C_le : ∀ (n k : Nat), C n k ≤ 2 ^ n
  | n, 0 => by rw [C_zero]; exact Nat.one_le_two_pow
  | 0, k + 1 => by simp [C]
  | n + 1, k + 1 => by
    have h1 := C_le n k
    have h2 := C_le n (k + 1)
    rw [C_succ, Nat.pow_succ]; omega

theorem C_le50 (n k : Nat) (h : n ≤ 50) : C n k ≤ 1125899906842624 :=
  Nat.le_trans (C_le n k) (Nat.le_trans (Nat.pow_le_pow_right (by omega) h) (by decide))

/-- The step of the product formula. -/
theorem C_step : ∀ (n k : Nat), k ≤ n → C n k * (n - k) = C n (k + 1) * (k + 1)
  | 0, k, h => by
    obtain rfl : k = 0 := by omega
    simp [C]
  | n + 1, 0, _ => by
    have ih := C_step n 0 (by omega)
    rw [C_zero] at ih ⊢
    rw [C_succ, C_zero]
    omega
  | n + 1, k + 1, h => by
    rcases Nat.lt_or_ge n (k + 1) with g | g
    · obtain rfl : n = k := by omega
      rw [C_big (n + 1) (n + 2) (by omega)]
      simp
    · have h1 := C_step n k (by omega)
      have h2 := C_step n (k + 1) g
      rw [C_succ n k, C_succ n (k + 1)]
      obtain ⟨m, rfl⟩ : ∃ m, n = k + 1 + m := ⟨n - (k + 1), by omega⟩
      have e1 : k + 1 + m - k = m + 1 := by omega
      have e2 : k + 1 + m - (k + 1) = m := by omega
      have e3 : k + 1 + m + 1 - (k + 1) = m + 1 := by omega
      rw [e1] at h1
      rw [e2] at h2
      rw [e3]
      generalize C (k + 1 + m) k = a at *
      generalize C (k + 1 + m) (k + 1) = b at *
      generalize C (k + 1 + m) (k + 1 + 1) = c at *
      grind

theorem C_symm : ∀ (n k : Nat), k ≤ n → C n (n - k) = C n k
  | 0, k, h => by
    obtain rfl : k = 0 := by omega
    rfl
  | n + 1, 0, _ => by rw [Nat.sub_zero, C_self, C_zero]
  | n + 1, k + 1, h => by
    rw [show n + 1 - (k + 1) = n - k from by omega]
    rcases Nat.lt_or_ge k n with g | g
    · obtain ⟨m, hm⟩ : ∃ m, n - k = m + 1 := ⟨n - k - 1, by omega⟩
      rw [hm, C_succ, C_succ, ← C_symm n k (by omega), hm, ← C_symm n (k + 1) (by omega), show n - (k + 1) = m from by omega, Nat.add_comm]
    · obtain rfl : k = n := by omega
      rw [Nat.sub_self, C_zero, C_self]

/-- The first j terms of Vandermonde's sum. -/
def W (b g n : Nat) : Nat → Nat
  | 0 => 0
  | j + 1 => W b g n j + C b j * C g (n - j)

theorem W_mono (b g n : Nat) : ∀ {i j : Nat}, i ≤ j → W b g n i ≤ W b g n j
  | i, 0, h => by
    obtain rfl : i = 0 := by omega
    exact Nat.le_refl _
  | i, j + 1, h => by
    rcases Nat.lt_or_ge j i with g' | g'
    · obtain rfl : i = j + 1 := by omega
      exact Nat.le_refl _
    · exact Nat.le_trans (W_mono b g n g') (Nat.le_add_right _ _)

theorem W_b (b g n : Nat) : ∀ j : Nat, W (b + 1) g (n + 1) (j + 1) = W b g (n + 1) (j + 1) + W b g n j
  | 0 => by simp [W, C_zero]
  | j + 1 => by
    have ih := W_b b g n j
    show W (b + 1) g (n + 1) (j + 1) + C (b + 1) (j + 1) * C g (n + 1 - (j + 1)) = (W b g (n + 1) (j + 1) + C b (j + 1) * C g (n + 1 - (j + 1))) + (W b g n j + C b j * C g (n - j))
    rw [ih, C_succ, show n + 1 - (j + 1) = n - j from by omega, Nat.add_mul]
    omega

theorem W_g (b g n : Nat) : ∀ j : Nat, j ≤ n + 1 → W b (g + 1) (n + 1) j = W b g (n + 1) j + W b g n j
  | 0, _ => rfl
  | j + 1, h => by
    have ih := W_g b g n j (by omega)
    rw [W, ih, W, W, show n + 1 - j = (n - j) + 1 from by omega, C_succ, Nat.mul_add]
    omega

theorem W_zero_b (g n : Nat) : ∀ j : Nat, W 0 g n (j + 1) = C g n
  | 0 => by simp [W, C_zero]
  | j + 1 => by rw [W, W_zero_b g n j, C_big 0 (j + 1) (by omega)]; simp

/-- Vandermonde. -/
theorem W_all : ∀ (b g n : Nat), W b g n (n + 1) = C (b + g) n
  | 0, g, n => by rw [W_zero_b, Nat.zero_add]
  | b + 1, g, 0 => by simp [W, C_zero]
  | b + 1, g, n + 1 => by
    rw [W_b, W_all b g (n + 1), W_all b g n, show b + 1 + g = (b + g) + 1 from by omega, C_succ]
    omega

theorem W_le (b g n x : Nat) (h : x ≤ n + 1) : W b g n x ≤ C (b + g) n := by
  rw [← W_all]; exact W_mono b g n h

/-- One more bad and one less good sample of the canary. -/
theorem W_worse (b g n x : Nat) (h : x ≤ n) (hn : 0 < n) : W b (g + 1) n x ≤ W (b + 1) g n (x + 1) := by
  obtain ⟨m, rfl⟩ : ∃ m, n = m + 1 := ⟨n - 1, by omega⟩
  rw [W_g b g m x (by omega), W_b]
  have := W_mono b g (m + 1) (show x ≤ x + 1 by omega)
  omega

/-- One more bad and one less good sample of the base. -/
theorem W_base (b g n x : Nat) (h : x ≤ n) : W (b + 1) g n x ≤ W b (g + 1) n x := by
  cases x with
  | zero => simp [W]
  | succ x =>
    obtain ⟨m, rfl⟩ : ∃ m, n = m + 1 := ⟨n - 1, by omega⟩
    rw [W_b, W_g b g m (x + 1) (by omega)]
    have := W_mono b g m (show x ≤ x + 1 by omega)
    omega

/-- The sum from behind. -/
theorem W_rev (b g n : Nat) : ∀ j : Nat, j ≤ n + 1 → W b g n j + W g b n (n + 1 - j) = C (b + g) n
  | 0, _ => by rw [Nat.sub_zero, W_all, Nat.add_comm g b]; simp [W]
  | j + 1, h => by
    have ih := W_rev b g n j (by omega)
    rw [show n + 1 - j = (n - j) + 1 from by omega, W, show n - (n - j) = j from by omega] at ih
    rw [W, show n + 1 - (j + 1) = n - j from by omega, Nat.mul_comm (C b j)]
    omega

theorem W_none (B G d : Nat) : ∀ i : Nat, i ≤ d → W B G (G + d) i = 0
  | 0, _ => rfl
  | i + 1, h => by rw [W, W_none B G d i (by omega), C_big G (G + d - i) (by omega)]; simp

/-- Versions and colors exchanged. -/
theorem W_side (B G n d : Nat) (h : n + d = B) : ∀ j : Nat, j ≤ G + 1 → j ≤ n + 1 → W G B n j = W B G (G + d) (j + d)
  | 0, _, _ => by rw [Nat.zero_add, W_none B G d d (Nat.le_refl _)]; rfl
  | j + 1, h1, h2 => by
    have ih := W_side B G n d h j (by omega) (by omega)
    rw [show j + 1 + d = (j + d) + 1 from by omega, W, W, ih, show G + d - (j + d) = G - j from by omega, C_symm G j (by omega)]
    have : C B (n - j) = C B (j + d) := by
      rw [← C_symm B (j + d) (by omega), show B - (j + d) = n - j from by omega]
    rw [this, Nat.mul_comm]

/-- A term of the tail. -/
theorem W_term (b g n x : Nat) (h1 : x ≤ b) (_h2 : x ≤ n) (h3 : n - x ≤ g) : W b g n x < W b g n (x + 1) := by
  have := C_pos b x h1
  have := C_pos g (n - x) h3
  have := Nat.mul_pos ‹0 < C b x› ‹0 < C g (n - x)›
  show W b g n x < W b g n x + C b x * C g (n - x)
  omega

end Can
end Go.Proofs.Ytgedmbndmdphdaa

/-
  What the functions of the canary compute. Conditions: none.
-/
import Derived.Test.YtiffkkebibddbaaLift
import Derived.Test.YtiffkkebibddbaaEngX
import Derived.Test.YtiffkkebibddbaaCanM
namespace Go.Proofs.Ytiffkkebibddbaa
open Eng
namespace Can

def okC (g b : Int) : Prop := 0 ≤ g ∧ 0 ≤ b ∧ g + b ≤ 25

theorem Validate_ok {g b : Int} {K : Int → Int → Prop} (h : okC g b) (hK : K 0 0) : L.canary_Validate g b K := by
  unfold okC at h
  refine ⟨cond_f ?_ hK⟩
  rw [i64_id (by omega) (by omega)]
  simp [bor]; omega

theorem Validate_bad {g b : Int} {K : Int → Int → Prop} (h : ¬ okC g b) (hK : K 3 (-1)) : L.canary_Validate g b K := by
  unfold okC at h
  refine ⟨cond_t ?_ hK⟩
  by_cases hh : 0 ≤ g ∧ g ≤ 25 ∧ 0 ≤ b ∧ b ≤ 25
  · rw [i64_id (by omega) (by omega)]
    simp [bor]; omega
  · simp [bor]; omega

theorem CountsValid_ok {g b : Int} {K : Bool → Prop} (h : okC g b) (hK : K true) : L.ref8_CountsValid g b K := by
  unfold okC at h
  constructor
  unfold L.ref8_CountsValid_B
  rw [i64_id (by omega) (by omega)]
  have e : (bif (bif (bif (bif (decide (g ≥ 0)) then (decide (b ≥ 0)) else false) then (decide (g ≤ 25)) else false) then (decide (b ≤ 25)) else false) then (decide (g + b ≤ 25)) else false) = true := by
    simp [band]; omega
  rw [e]; exact hK

theorem CountsValid_bad {g b : Int} {K : Bool → Prop} (h : ¬ okC g b) (hK : K false) : L.ref8_CountsValid g b K := by
  unfold okC at h
  constructor
  unfold L.ref8_CountsValid_B
  have e : (bif (bif (bif (bif (decide (g ≥ 0)) then (decide (b ≥ 0)) else false) then (decide (g ≤ 25)) else false) then (decide (b ≤ 25)) else false) then (decide (i64 (g + b) ≤ 25)) else false) = false := by
    by_cases hh : 0 ≤ g ∧ g ≤ 25 ∧ 0 ≤ b ∧ b ≤ 25
    · rw [i64_id (by omega) (by omega)]
      simp [band]; omega
    · simp [band]; omega
  rw [e]; exact hK

theorem Fault_ok {c i : Int} {K : Int → Int → Prop} (hK : K c i) : L.ref8_Fault c i K := ⟨hK⟩

theorem both_ok {a b c d : Int} {K : Int → Int → Prop} (h1 : okC a b) (h2 : okC c d) (hK : K 0 0) : L.canary_both a b c d K :=
  ⟨Validate_ok h1 (cond_f rfl (Validate_ok h2 (cond_f rfl hK)))⟩
theorem both_bad1 {a b c d : Int} {K : Int → Int → Prop} (h1 : ¬ okC a b) (hK : K 3 (-1)) : L.canary_both a b c d K :=
  ⟨Validate_bad h1 (cond_t rfl hK)⟩
theorem both_bad2 {a b c d : Int} {K : Int → Int → Prop} (h1 : okC a b) (h2 : ¬ okC c d) (hK : K 3 (-2)) : L.canary_both a b c d K :=
  ⟨Validate_ok h1 (cond_f rfl (Validate_bad h2 (cond_t rfl hK)))⟩

theorem sides_ok {a b c d : Int} {K : Int → Int → Prop} (h1 : okC a b) (h2 : okC c d) (hK : K 0 0) : L.law8_sidesFault a b c d K :=
  ⟨CountsValid_ok h1 (cond_f rfl (CountsValid_ok h2 (cond_f rfl hK)))⟩
theorem sides_bad1 {a b c d : Int} {K : Int → Int → Prop} (h1 : ¬ okC a b) (hK : K 3 (-1)) : L.law8_sidesFault a b c d K :=
  ⟨CountsValid_bad h1 (cond_t rfl (Fault_ok hK))⟩
theorem sides_bad2 {a b c d : Int} {K : Int → Int → Prop} (h1 : okC a b) (h2 : ¬ okC c d) (hK : K 3 (-2)) : L.law8_sidesFault a b c d K :=
  ⟨CountsValid_ok h1 (cond_f rfl (CountsValid_bad h2 (cond_t rfl (Fault_ok hK))))⟩

theorem choose_loop {n k : Nat} (hn : n ≤ 50) (hk : k ≤ n) {K : Int → Prop} (hK : K (C n k)) : ∀ (fu i : Nat), i ≤ k → k - i < fu → L.canary_choose_L1_R n k fu (C n i) i K
  | 0, i, _, h => by omega
  | fu + 1, i, hi, h => by
    show L.canary_choose_L1_b n k (C n i) i _ K
    unfold L.canary_choose_L1_b
    rcases Nat.lt_or_ge i k with g | g
    · refine cond_t (by simp; omega) ?_
      have hstep := C_step n i (by omega)
      have hle := C_le50 n i hn
      have hmul : C n i * (n - i) ≤ 1125899906842624 * 50 := Nat.mul_le_mul hle (by omega)
      rw [i64_id (n := (i : Int) + 1) (by omega) (by omega), i64_id (n := (n : Int) - i) (by omega) (by omega)]
      have e : (C n i : Int) * ((n : Int) - i) = ((C n (i + 1) * (i + 1) : Nat) : Int) := by
        rw [← hstep, Int.natCast_mul, Int.natCast_sub (by omega)]
      have hb : C n (i + 1) * (i + 1) ≤ 1125899906842624 * 50 := hstep ▸ hmul
      rw [e, i64_id (n := ((C n (i + 1) * (i + 1) : Nat) : Int)) (by omega) (by omega)]
      have e2 : (((C n (i + 1) * (i + 1) : Nat) : Int)).tdiv ((i : Int) + 1) = (C n (i + 1) : Int) := by
        rw [Int.natCast_mul, show ((i + 1 : Nat) : Int) = (i : Int) + 1 from by omega]
        exact Int.mul_tdiv_cancel _ (by omega)
      have hle2 := C_le50 n (i + 1) hn
      rw [e2, i64_id (by omega) (by omega)]
      refine ⟨by omega, ?_⟩
      have := choose_loop hn hk hK fu (i + 1) g (by omega)
      rwa [show ((i + 1 : Nat) : Int) = (i : Int) + 1 from by omega] at this
    · obtain rfl : i = k := by omega
      exact cond_f (by simp) hK

theorem choose_ok (n k : Nat) (hn : n ≤ 50) {K : Int → Prop} (hK : K (C n k)) : L.canary_choose n k K := by
  constructor
  unfold L.canary_choose_B
  rcases Nat.lt_or_ge n k with g | g
  · refine cond_t (by simp [bor]; omega) ?_
    rwa [C_big n k g] at hK
  · refine cond_f (by simp [bor]; omega) ⟨⟨k + 1, ?_⟩⟩
    have := choose_loop hn g hK (k + 1) 0 (by omega) (by omega)
    rwa [C_zero] at this

def tl (b g n x : Nat) : Nat := C (b + g) n - W b g n x

theorem tl_cast {b g n x : Nat} (h : x ≤ n + 1) : ((tl b g n x : Nat) : Int) = C (b + g) n - W b g n x := by
  have := W_le b g n x h
  unfold tl; omega

theorem tail_loop {b g n x : Nat} (hN : b + g ≤ 50) (hn : n ≤ 25) (hx : x ≤ n) {K : Int → Prop} (hK : K (C (b + g) n - W b g n x)) : ∀ (fu j : Nat), j ≤ n + 1 → n + 1 - j < fu →
    L.canary_tail_L1_R g b n (n + 1 : Int) x fu (W b g n (max j x) - W b g n x) j K
  | 0, j, _, h => by omega
  | fu + 1, j, hj, h => by
    show L.canary_tail_L1_b g b n (n + 1 : Int) x (W b g n (max j x) - W b g n x) j _ K
    unfold L.canary_tail_L1_b
    rcases Nat.lt_or_ge j (n + 1) with hlt | hlt
    · refine cond_t (by simp; omega) ?_
      rw [i64_id (n := (j : Int) + 1) (by omega) (by omega)]
      rcases Nat.lt_or_ge j x with hjx | hjx
      · refine cond_f (by simp; omega) ?_
        have ih := tail_loop hN hn hx hK fu (j + 1) (by omega) (by omega)
        rw [show max (j + 1) x = max j x from by omega, show ((j + 1 : Nat) : Int) = (j : Int) + 1 from by omega] at ih
        exact ih
      · refine cond_t (by simp; omega) ?_
        rw [i64_id (n := (n : Int) - j) (by omega) (by omega), show (n : Int) - j = ((n - j : Nat) : Int) from by omega]
        refine choose_ok b j (by omega) (choose_ok g (n - j) (by omega) ?_)
        have ih := tail_loop hN hn hx hK fu (j + 1) (by omega) (by omega)
        rw [show max (j + 1) x = j + 1 from by omega, show ((j + 1 : Nat) : Int) = (j : Int) + 1 from by omega] at ih
        rw [show max j x = j from by omega]
        have hW : W b g n (j + 1) = W b g n j + C b j * C g (n - j) := rfl
        have h1 := W_le b g n (j + 1) (by omega)
        have h2 := C_le50 (b + g) n hN
        have h3 := W_mono b g n hjx
        have e : (C b j : Int) * (C g (n - j) : Int) = ((C b j * C g (n - j) : Nat) : Int) := by rw [Int.natCast_mul]
        rw [e]
        generalize C b j * C g (n - j) = p at *
        rw [i64_id (n := (p : Int)) (by omega) (by omega), i64_id (by omega) (by omega)]
        rw [hW] at ih
        rwa [show (W b g n j : Int) - W b g n x + p = ((W b g n j + p : Nat) : Int) - W b g n x from by omega]
    · obtain rfl : j = n + 1 := by omega
      refine cond_f (by simp) ?_
      rwa [show max (n + 1) x = n + 1 from by omega, W_all]

/-- The fraction of a comparison. -/
theorem tail_ok (g1 b1 g2 b2 : Nat) (h1 : g1 + b1 ≤ 25) (h2 : g2 + b2 ≤ 25) {K : Int → Int → Prop} (hK : K (C (b1 + b2 + (g1 + g2)) (g2 + b2) - W (b1 + b2) (g1 + g2) (g2 + b2) b2) (C (b1 + b2 + (g1 + g2)) (g2 + b2))) :
    L.canary_tail g1 b1 g2 b2 K := by
  constructor
  unfold L.canary_tail_B
  rw [i64_id (n := (g1 : Int) + g2) (by omega) (by omega), i64_id (n := (b1 : Int) + b2) (by omega) (by omega), i64_id (n := (g2 : Int) + b2) (by omega) (by omega), i64_id (n := (g2 : Int) + b2 + 1) (by omega) (by omega),
    i64_id (n := (g1 : Int) + g2 + (b1 + b2)) (by omega) (by omega)]
  refine ⟨⟨g2 + b2 + 2, ?_⟩⟩
  have := tail_loop (b := b1 + b2) (g := g1 + g2) (n := g2 + b2) (x := b2) (by omega) h2 (by omega) (K := fun s => L.canary_choose (↑g1 + ↑g2 + (↑b1 + ↑b2)) (↑g2 + ↑b2) fun r => K s r) (by
    have := choose_ok (b1 + b2 + (g1 + g2)) (g2 + b2) (by omega) (K := fun r => K (C (b1 + b2 + (g1 + g2)) (g2 + b2) - W (b1 + b2) (g1 + g2) (g2 + b2) b2) r) hK
    rwa [show ((b1 + b2 + (g1 + g2) : Nat) : Int) = ↑g1 + ↑g2 + (↑b1 + ↑b2) from by omega, show ((g2 + b2 : Nat) : Int) = ↑g2 + ↑b2 from by omega] at this) (g2 + b2 + 2) 0 (by omega) (by omega)
  rw [show max 0 b2 = b2 from by omega, Int.sub_self] at this
  simpa using this

/-- Whether a comparison fails. -/
def fl (g1 b1 g2 b2 : Nat) (m : Int) : Bool := decide (1000 * ((C (b1 + b2 + (g1 + g2)) (g2 + b2) : Int) - W (b1 + b2) (g1 + g2) (g2 + b2) b2) ≤ m * C (b1 + b2 + (g1 + g2)) (g2 + b2))

theorem mul_bound {m : Int} {c : Nat} (h1 : 0 ≤ m) (h2 : m < 1000) (hc : c ≤ 1125899906842624) : 0 ≤ m * c ∧ m * c ≤ 1125899906842624000 := by
  obtain ⟨k, rfl⟩ := Int.eq_ofNat_of_zero_le h1
  have : k * c ≤ 1000 * 1125899906842624 := Nat.mul_le_mul (by omega) hc
  have e : (k : Int) * c = ((k * c : Nat) : Int) := by rw [Int.natCast_mul]
  rw [e]; omega

theorem fails_ok (g1 b1 g2 b2 : Nat) (m : Int) (h1 : g1 + b1 ≤ 25) (h2 : g2 + b2 ≤ 25) (h3 : 0 ≤ m) (h4 : m < 1000) {K : Bool → Prop} (hK : K (fl g1 b1 g2 b2 m)) : L.canary_fails g1 b1 g2 b2 m K := by
  refine ⟨tail_ok g1 b1 g2 b2 h1 h2 ?_⟩
  have a1 := W_le (b1 + b2) (g1 + g2) (g2 + b2) b2 (by omega)
  have a2 := C_le50 (b1 + b2 + (g1 + g2)) (g2 + b2) (by omega)
  have a3 := mul_bound h3 h4 a2
  rw [i64_id (by omega) (by omega), i64_id (by omega) (by omega)]
  exact hK

theorem Tail_ok (g1 b1 g2 b2 : Nat) (h1 : g1 + b1 ≤ 25) (h2 : g2 + b2 ≤ 25) {K : Int → Int → Int → Int → Prop} (hK : K (C (b1 + b2 + (g1 + g2)) (g2 + b2) - W (b1 + b2) (g1 + g2) (g2 + b2) b2) (C (b1 + b2 + (g1 + g2)) (g2 + b2)) 0 0) :
    L.canary_Tail g1 b1 g2 b2 K :=
  ⟨both_ok (by unfold okC; omega) (by unfold okC; omega) (cond_f rfl (tail_ok g1 b1 g2 b2 h1 h2 hK))⟩
theorem Tail_bad1 {a b c d : Int} {K : Int → Int → Int → Int → Prop} (h1 : ¬ okC a b) (hK : K 0 0 3 (-1)) : L.canary_Tail a b c d K := ⟨both_bad1 h1 (cond_t rfl hK)⟩
theorem Tail_bad2 {a b c d : Int} {K : Int → Int → Int → Int → Prop} (h1 : okC a b) (h2 : ¬ okC c d) (hK : K 0 0 3 (-2)) : L.canary_Tail a b c d K := ⟨both_bad2 h1 h2 (cond_t rfl hK)⟩

theorem isSamples_ok {n : Int} {K : Bool → Prop} (hK : K (decide (0 ≤ n ∧ n ≤ 25))) : L.canary_isSamples n K := by
  constructor
  unfold L.canary_isSamples_B
  have e : (bif (decide (n ≥ 0)) then (decide (n ≤ 25)) else false) = decide (0 ≤ n ∧ n ≤ 25) := by
    rw [band, Bool.eq_iff_iff]; simp
  rw [e]; exact hK
theorem isPerMille_ok {n : Int} {K : Bool → Prop} (hK : K (decide (0 ≤ n ∧ n < 1000))) : L.canary_isPerMille n K := by
  constructor
  unfold L.canary_isPerMille_B
  have e : (bif (decide (n ≥ 0)) then (decide (n < 1000)) else false) = decide (0 ≤ n ∧ n < 1000) := by
    rw [band, Bool.eq_iff_iff]; simp
  rw [e]; exact hK

theorem Decide_bad1 {a b c d n m : Int} {K : Int → Int → Int → Prop} (h1 : ¬ okC a b) (hK : K 0 3 (-1)) : L.canary_Decide a b c d n m K := ⟨both_bad1 h1 (cond_t rfl hK)⟩
theorem Decide_bad2 {a b c d n m : Int} {K : Int → Int → Int → Prop} (h1 : okC a b) (h2 : ¬ okC c d) (hK : K 0 3 (-2)) : L.canary_Decide a b c d n m K := ⟨both_bad2 h1 h2 (cond_t rfl hK)⟩
theorem Decide_bad3 {a b c d n m : Int} {K : Int → Int → Int → Prop} (h1 : okC a b) (h2 : okC c d) (h3 : ¬ (0 ≤ n ∧ n ≤ 25 ∧ 0 ≤ m ∧ m < 1000)) (hK : K 0 3 (-3)) : L.canary_Decide a b c d n m K := by
  refine ⟨both_ok h1 h2 (cond_f rfl (isSamples_ok ?_))⟩
  by_cases h : 0 ≤ n ∧ n ≤ 25
  · rw [decide_eq_true h]
    refine cond_f rfl (isPerMille_ok ?_)
    rw [decide_eq_false (by omega)]
    exact ⟨cond_t rfl hK⟩
  · rw [decide_eq_false h]
    exact cond_t rfl ⟨cond_t rfl hK⟩

/-- The verdict. -/
def vdt (g1 b1 g2 b2 : Nat) (n m : Int) : Int := bif fl g1 b1 g2 b2 m then 3 else bif decide (((g2 + b2 : Nat) : Int) < n) then 1 else 2

theorem Decide_ok (g1 b1 g2 b2 : Nat) (n m : Int) (h1 : g1 + b1 ≤ 25) (h2 : g2 + b2 ≤ 25) (h3 : 0 ≤ n) (h4 : n ≤ 25) (h5 : 0 ≤ m) (h6 : m < 1000) {K : Int → Int → Int → Prop} (hK : K (vdt g1 b1 g2 b2 n m) 0 0) :
    L.canary_Decide g1 b1 g2 b2 n m K := by
  refine ⟨both_ok (by unfold okC; omega) (by unfold okC; omega) (cond_f rfl (isSamples_ok ?_))⟩
  rw [decide_eq_true ⟨h3, h4⟩]
  refine cond_f rfl (isPerMille_ok ?_)
  rw [decide_eq_true ⟨h5, h6⟩]
  refine ⟨cond_f rfl ⟨fails_ok g1 b1 g2 b2 m h1 h2 h5 h6 ?_⟩⟩
  rw [i64_id (n := (g2 : Int) + b2) (by omega) (by omega)]
  unfold vdt at hK
  rw [show ((g2 + b2 : Nat) : Int) = (g2 : Int) + b2 from by omega] at hK
  cases hf : fl g1 b1 g2 b2 m <;> rw [hf] at hK
  · cases hd : decide ((g2 : Int) + b2 < n) <;> rw [hd] at hK <;> exact hK
  · exact hK

/-- The largest number of bad samples, of the first j, that is no failure; else 0. -/
def most (g b s : Nat) (m : Int) : Nat → Nat
  | 0 => 0
  | j + 1 => bif fl g b (s - j) j m then most g b s m j else j

theorem Tol_loop {g b s : Nat} {m : Int} (h1 : g + b ≤ 25) (h2 : s ≤ 25) (h3 : 0 ≤ m) (h4 : m < 1000) {K : Int → Prop} (hK : K (most g b s m (s + 1))) : ∀ (fu j : Nat), j ≤ s + 1 → s + 1 - j < fu →
    L.canary_Tolerated_L1_R s m (s + 1 : Int) g b fu (most g b s m j) j K
  | 0, j, _, h => by omega
  | fu + 1, j, hj, h => by
    show L.canary_Tolerated_L1_b s m (s + 1 : Int) g b (most g b s m j) j _ K
    unfold L.canary_Tolerated_L1_b
    rcases Nat.lt_or_ge j (s + 1) with hlt | hlt
    · refine cond_t (by simp; omega) ?_
      rw [i64_id (n := (j : Int) + 1) (by omega) (by omega), i64_id (n := (s : Int) - j) (by omega) (by omega), show (s : Int) - j = ((s - j : Nat) : Int) from by omega]
      refine fails_ok g b (s - j) j m h1 (by omega) h3 h4 ?_
      have ih := Tol_loop h1 h2 h3 h4 hK fu (j + 1) (by omega) (by omega)
      rw [show ((j + 1 : Nat) : Int) = (j : Int) + 1 from by omega] at ih
      unfold most at ih
      cases hf : fl g b (s - j) j m <;> rw [hf] at ih
      · exact cond_t rfl ih
      · exact cond_f rfl ih
    · obtain rfl : j = s + 1 := by omega
      exact cond_f (by simp) hK

theorem Tol_ok (g b s : Nat) (m : Int) (h1 : g + b ≤ 25) (h2 : s ≤ 25) (h3 : 0 ≤ m) (h4 : m < 1000) {K : Int → Int → Int → Prop} (hK : K (most g b s m (s + 1)) 0 0) : L.canary_Tolerated g b s m K := by
  refine ⟨Validate_ok (by unfold okC; omega) (cond_f rfl (isSamples_ok ?_))⟩
  rw [decide_eq_true (by omega)]
  refine cond_f rfl (isPerMille_ok ?_)
  rw [decide_eq_true ⟨h3, h4⟩]
  refine cond_f rfl ?_
  rw [i64_id (n := (s : Int) + 1) (by omega) (by omega)]
  exact ⟨⟨s + 2, Tol_loop h1 h2 h3 h4 (K := fun r => K r 0 0) hK (s + 2) 0 (by omega) (by omega)⟩⟩
theorem Tol_bad1 {a b s m : Int} {K : Int → Int → Int → Prop} (h : ¬ okC a b) (hK : K 0 3 (-1)) : L.canary_Tolerated a b s m K := ⟨Validate_bad h (cond_t rfl hK)⟩
theorem Tol_bad2 {a b s m : Int} {K : Int → Int → Int → Prop} (h : okC a b) (h2 : ¬ (0 ≤ s ∧ s ≤ 25)) (hK : K 0 3 (-2)) : L.canary_Tolerated a b s m K := by
  refine ⟨Validate_ok h (cond_f rfl (isSamples_ok ?_))⟩
  rw [decide_eq_false h2]
  exact cond_t rfl hK
theorem Tol_bad3 {a b s m : Int} {K : Int → Int → Int → Prop} (h : okC a b) (h2 : 0 ≤ s ∧ s ≤ 25) (h3 : ¬ (0 ≤ m ∧ m < 1000)) (hK : K 0 3 (-3)) : L.canary_Tolerated a b s m K := by
  refine ⟨Validate_ok h (cond_f rfl (isSamples_ok ?_))⟩
  rw [decide_eq_true h2]
  refine cond_f rfl (isPerMille_ok ?_)
  rw [decide_eq_false h3]
  exact cond_t rfl hK

theorem example_ok {K : Bool → Prop} (hK : K true) : L.law8_canaryExample K := by
  refine ⟨Tail_ok 1 0 0 1 (by omega) (by omega) (Decide_ok 20 0 0 20 5 50 (by omega) (by omega) (by omega) (by omega) (by omega) (by omega) (Decide_ok 20 0 2 0 5 50 (by omega) (by omega) (by omega) (by omega) (by omega) (by omega) (Tol_ok 9 0 7 0 (by omega) (by omega) (by omega) (by omega) ?_)))⟩
  have e : ∀ b, b = true → K b := fun b h => by rw [h]; exact hK
  refine e _ ?_
  decide +kernel

end Can
end Go.Proofs.Ytiffkkebibddbaa

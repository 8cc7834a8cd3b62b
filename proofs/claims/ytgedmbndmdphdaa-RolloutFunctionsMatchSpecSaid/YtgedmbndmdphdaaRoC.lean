/-
  What the canary's functions compute, and what the specification's do. Conditions: none.
-/
import Derived.Test.YtgedmbndmdphdaaLift2
import Derived.Test.YtgedmbndmdphdaaEngX
import Derived.Test.YtgedmbndmdphdaaEngV
import Derived.Test.YtgedmbndmdphdaaRoM
namespace Go.Proofs.Ytgedmbndmdphdaa
open Eng
namespace Can

def okC (g b : Int) : Prop := 0 ≤ g ∧ 0 ≤ b ∧ g + b ≤ 25

theorem Validate_ok {g b : Int} {K : Int → Int → Prop} (h : okC g b) (hK : K 0 0) : L.canary_Validate g b K := by
  unfold okC at h
  refine ⟨cond_f ?_ hK⟩
  rw [i64_id (by omega) (by omega)]
  simp; omega

theorem Validate_bad {g b : Int} {K : Int → Int → Prop} (h : ¬ okC g b) (hK : K 3 (-1)) : L.canary_Validate g b K := by
  unfold okC at h
  refine ⟨cond_t ?_ hK⟩
  by_cases hh : 0 ≤ g ∧ g ≤ 25 ∧ 0 ≤ b ∧ b ≤ 25
  · rw [i64_id (by omega) (by omega)]
    simp; omega
  · simp; omega

theorem CountsValid_ok {g b : Int} {K : Bool → Prop} (h : okC g b) (hK : K true) : L.ref8_CountsValid g b K := by
  unfold okC at h
  constructor
  unfold L.ref8_CountsValid_B
  rw [i64_id (by omega) (by omega)]
  have e : (bif (bif (bif (bif (decide (g ≥ 0)) then (decide (b ≥ 0)) else false) then (decide (g ≤ 25)) else false) then (decide (b ≤ 25)) else false) then (decide (g + b ≤ 25)) else false) = true := by
    simp; omega
  rw [e]; exact hK

theorem CountsValid_bad {g b : Int} {K : Bool → Prop} (h : ¬ okC g b) (hK : K false) : L.ref8_CountsValid g b K := by
  unfold okC at h
  constructor
  unfold L.ref8_CountsValid_B
  have e : (bif (bif (bif (bif (decide (g ≥ 0)) then (decide (b ≥ 0)) else false) then (decide (g ≤ 25)) else false) then (decide (b ≤ 25)) else false) then (decide (i64 (g + b) ≤ 25)) else false) = false := by
    by_cases hh : 0 ≤ g ∧ g ≤ 25 ∧ 0 ≤ b ∧ b ≤ 25
    · rw [i64_id (by omega) (by omega)]
      simp; omega
    · simp; omega
  rw [e]; exact hK

theorem Fault_ok {c i : Int} {K : Int → Int → Prop} (hK : K c i) : L.ref8_Fault c i K := ⟨hK⟩

theorem both_ok {a b c d : Int} {K : Int → Int → Prop} (h1 : okC a b) (h2 : okC c d) (hK : K 0 0) : L.canary_both a b c d K :=
  ⟨Validate_ok h1 (cond_f rfl (Validate_ok h2 (cond_f rfl hK)))⟩

theorem both_bad1 {a b c d : Int} {K : Int → Int → Prop} (h1 : ¬ okC a b) (hK : K 3 (-1)) : L.canary_both a b c d K :=
  ⟨Validate_bad h1 (cond_t rfl hK)⟩

theorem both_bad2 {a b c d : Int} {K : Int → Int → Prop} (h1 : okC a b) (h2 : ¬ okC c d) (hK : K 3 (-2)) : L.canary_both a b c d K :=
  ⟨Validate_ok h1 (cond_f rfl (Validate_bad h2 (cond_t rfl hK)))⟩

theorem choose_loop {n k : Nat} (hn : n ≤ 50) (hk : k ≤ n) {K : Int → Prop} (hK : K (C n k)) : ∀ (fu i : Nat), i ≤ k → k - i < fu → L.canary_choose_L1_R n k fu (C n i) i K
  | 0, i, _, h => by omega
  | fu + 1, i, hi, h => by
    show L.canary_choose_L1_b n k (C n i) i _ K
    unfold L.canary_choose_L1_b
    rcases Nat.lt_or_ge i k with g | g
    · refine cond_t (by simp; omega) ?_
      have hstep := C_step n i (by omega)
      have hle := C_le50 n i hn
      have hmul : C n i * (n - i) ≤ 1125899906842624 * 50 := Nat.mul_le_mul hle (by omega)
      rw [i64_id (n := (i : Int) + 1) (by omega) (by omega), i64_id (n := (n : Int) - i) (by omega) (by omega)]
      have e : (C n i : Int) * ((n : Int) - i) = ((C n (i + 1) * (i + 1) : Nat) : Int) := by
        rw [← hstep, Int.natCast_mul, Int.natCast_sub (by omega)]
      have hb : C n (i + 1) * (i + 1) ≤ 1125899906842624 * 50 := hstep ▸ hmul
      rw [e, i64_id (n := ((C n (i + 1) * (i + 1) : Nat) : Int)) (by omega) (by omega)]
      have e2 : (((C n (i + 1) * (i + 1) : Nat) : Int)).tdiv ((i : Int) + 1) = (C n (i + 1) : Int) := by
        rw [Int.natCast_mul, show ((i + 1 : Nat) : Int) = (i : Int) + 1 from by omega]
        exact Int.mul_tdiv_cancel _ (by omega)
      have hle2 := C_le50 n (i + 1) hn
      rw [e2, i64_id (by omega) (by omega)]
      refine ⟨by omega, ?_⟩
      have := choose_loop hn hk hK fu (i + 1) g (by omega)
      rwa [show ((i + 1 : Nat) : Int) = (i : Int) + 1 from by omega] at this
    · obtain rfl : i = k := by omega
      exact cond_f (by simp) hK

theorem choose_ok (n k : Nat) (hn : n ≤ 50) {K : Int → Prop} (hK : K (C n k)) : L.canary_choose n k K := by
  constructor
  unfold L.canary_choose_B
  rcases Nat.lt_or_ge n k with g | g
  · refine cond_t (by simp; omega) ?_
    rwa [C_big n k g] at hK
  · refine cond_f (by simp; omega) ⟨⟨k + 1, ?_⟩⟩
    have := choose_loop hn g hK (k + 1) 0 (by omega) (by omega)
    rwa [C_zero] at this

def tl (b g n x : Nat) : Nat := C (b + g) n - W b g n x

theorem tl_cast {b g n x : Nat} (h : x ≤ n + 1) : ((tl b g n x : Nat) : Int) = C (b + g) n - W b g n x := by
  have := W_le b g n x h
  unfold tl; omega

theorem tail_loop {b g n x : Nat} (hN : b + g ≤ 50) (hn : n ≤ 25) (hx : x ≤ n) {K : Int → Prop} (hK : K (C (b + g) n - W b g n x)) : ∀ (fu j : Nat), j ≤ n + 1 → n + 1 - j < fu →
    L.canary_tail_L1_R g b n (n + 1 : Int) x fu (W b g n (max j x) - W b g n x) j K
  | 0, j, _, h => by omega
  | fu + 1, j, hj, h => by
    show L.canary_tail_L1_b g b n (n + 1 : Int) x (W b g n (max j x) - W b g n x) j _ K
    unfold L.canary_tail_L1_b
    rcases Nat.lt_or_ge j (n + 1) with hlt | hlt
    · refine cond_t (by simp; omega) ?_
      rw [i64_id (n := (j : Int) + 1) (by omega) (by omega)]
      rcases Nat.lt_or_ge j x with hjx | hjx
      · refine cond_f (by simp; omega) ?_
        have ih := tail_loop hN hn hx hK fu (j + 1) (by omega) (by omega)
        rw [show max (j + 1) x = max j x from by omega, show ((j + 1 : Nat) : Int) = (j : Int) + 1 from by omega] at ih
        exact ih
      · refine cond_t (by simp; omega) ?_
        rw [i64_id (n := (n : Int) - j) (by omega) (by omega), show (n : Int) - j = ((n - j : Nat) : Int) from by omega]
        refine choose_ok b j (by omega) (choose_ok g (n - j) (by omega) ?_)
        have ih := tail_loop hN hn hx hK fu (j + 1) (by omega) (by omega)
        rw [show max (j + 1) x = j + 1 from by omega, show ((j + 1 : Nat) : Int) = (j : Int) + 1 from by omega] at ih
        rw [show max j x = j from by omega]
        have hW : W b g n (j + 1) = W b g n j + C b j * C g (n - j) := rfl
        have h1 := W_le b g n (j + 1) (by omega)
        have h2 := C_le50 (b + g) n hN
        have h3 := W_mono b g n hjx
        have e : (C b j : Int) * (C g (n - j) : Int) = ((C b j * C g (n - j) : Nat) : Int) := by rw [Int.natCast_mul]
        rw [e]
        generalize C b j * C g (n - j) = p at *
        rw [i64_id (n := (p : Int)) (by omega) (by omega), i64_id (by omega) (by omega)]
        rw [hW] at ih
        rwa [show (W b g n j : Int) - W b g n x + p = ((W b g n j + p : Nat) : Int) - W b g n x from by omega]
    · obtain rfl : j = n + 1 := by omega
      refine cond_f (by simp) ?_
      rwa [show max (n + 1) x = n + 1 from by omega, W_all]

/-- The fraction of a comparison. -/
theorem tail_ok (g1 b1 g2 b2 : Nat) (h1 : g1 + b1 ≤ 25) (h2 : g2 + b2 ≤ 25) {K : Int → Int → Prop} (hK : K (C (b1 + b2 + (g1 + g2)) (g2 + b2) - W (b1 + b2) (g1 + g2) (g2 + b2) b2) (C (b1 + b2 + (g1 + g2)) (g2 + b2))) :
    L.canary_tail g1 b1 g2 b2 K := by
  constructor
  unfold L.canary_tail_B
  rw [i64_id (n := (g1 : Int) + g2) (by omega) (by omega), i64_id (n := (b1 : Int) + b2) (by omega) (by omega), i64_id (n := (g2 : Int) + b2) (by omega) (by omega), i64_id (n := (g2 : Int) + b2 + 1) (by omega) (by omega),
    i64_id (n := (g1 : Int) + g2 + (b1 + b2)) (by omega) (by omega)]
  refine ⟨⟨g2 + b2 + 2, ?_⟩⟩
  have := tail_loop (b := b1 + b2) (g := g1 + g2) (n := g2 + b2) (x := b2) (by omega) h2 (by omega) (K := fun s => L.canary_choose (↑g1 + ↑g2 + (↑b1 + ↑b2)) (↑g2 + ↑b2) fun r => K s r) (by
    have := choose_ok (b1 + b2 + (g1 + g2)) (g2 + b2) (by omega) (K := fun r => K (C (b1 + b2 + (g1 + g2)) (g2 + b2) - W (b1 + b2) (g1 + g2) (g2 + b2) b2) r) hK
    rwa [show ((b1 + b2 + (g1 + g2) : Nat) : Int) = ↑g1 + ↑g2 + (↑b1 + ↑b2) from by omega, show ((g2 + b2 : Nat) : Int) = ↑g2 + ↑b2 from by omega] at this) (g2 + b2 + 2) 0 (by omega) (by omega)
  rw [show max 0 b2 = b2 from by omega, Int.sub_self] at this
  simpa using this

/-- Whether a comparison fails. -/
def fl (g1 b1 g2 b2 : Nat) (m : Int) : Bool := decide (1000 * ((C (b1 + b2 + (g1 + g2)) (g2 + b2) : Int) - W (b1 + b2) (g1 + g2) (g2 + b2) b2) ≤ m * C (b1 + b2 + (g1 + g2)) (g2 + b2))

theorem mul_bound {m : Int} {c : Nat} (h1 : 0 ≤ m) (h2 : m < 1000) (hc : c ≤ 1125899906842624) : 0 ≤ m * c ∧ m * c ≤ 1125899906842624000 := by
  obtain ⟨k, rfl⟩ := Int.eq_ofNat_of_zero_le h1
  have : k * c ≤ 1000 * 1125899906842624 := Nat.mul_le_mul (by omega) hc
  have e : (k : Int) * c = ((k * c : Nat) : Int) := by rw [Int.natCast_mul]
  rw [e]; omega

theorem fails_ok (g1 b1 g2 b2 : Nat) (m : Int) (h1 : g1 + b1 ≤ 25) (h2 : g2 + b2 ≤ 25) (h3 : 0 ≤ m) (h4 : m < 1000) {K : Bool → Prop} (hK : K (fl g1 b1 g2 b2 m)) : L.canary_fails g1 b1 g2 b2 m K := by
  refine ⟨tail_ok g1 b1 g2 b2 h1 h2 ?_⟩
  have a1 := W_le (b1 + b2) (g1 + g2) (g2 + b2) b2 (by omega)
  have a2 := C_le50 (b1 + b2 + (g1 + g2)) (g2 + b2) (by omega)
  have a3 := mul_bound h3 h4 a2
  rw [i64_id (by omega) (by omega), i64_id (by omega) (by omega)]
  exact hK

theorem isSamples_ok {n : Int} {K : Bool → Prop} (hK : K (decide (0 ≤ n ∧ n ≤ 25))) : L.canary_isSamples n K := by
  constructor
  unfold L.canary_isSamples_B
  have e : (bif (decide (n ≥ 0)) then (decide (n ≤ 25)) else false) = decide (0 ≤ n ∧ n ≤ 25) := by
    rw [band, Bool.eq_iff_iff]; simp
  rw [e]; exact hK

theorem isPerMille_ok {n : Int} {K : Bool → Prop} (hK : K (decide (0 ≤ n ∧ n < 1000))) : L.canary_isPerMille n K := by
  constructor
  unfold L.canary_isPerMille_B
  have e : (bif (decide (n ≥ 0)) then (decide (n < 1000)) else false) = decide (0 ≤ n ∧ n < 1000) := by
    rw [band, Bool.eq_iff_iff]; simp
  rw [e]; exact hK

theorem Decide_bad1 {a b c d n m : Int} {K : Int → Int → Int → Prop} (h1 : ¬ okC a b) (hK : K 0 3 (-1)) : L.canary_Decide a b c d n m K := ⟨both_bad1 h1 (cond_t rfl hK)⟩

theorem Decide_bad2 {a b c d n m : Int} {K : Int → Int → Int → Prop} (h1 : okC a b) (h2 : ¬ okC c d) (hK : K 0 3 (-2)) : L.canary_Decide a b c d n m K := ⟨both_bad2 h1 h2 (cond_t rfl hK)⟩

theorem Decide_bad3 {a b c d n m : Int} {K : Int → Int → Int → Prop} (h1 : okC a b) (h2 : okC c d) (h3 : ¬ (0 ≤ n ∧ n ≤ 25 ∧ 0 ≤ m ∧ m < 1000)) (hK : K 0 3 (-3)) : L.canary_Decide a b c d n m K := by
  refine ⟨both_ok h1 h2 (cond_f rfl (isSamples_ok ?_))⟩
  by_cases h : 0 ≤ n ∧ n ≤ 25
  · rw [decide_eq_true h]
    refine cond_f rfl (isPerMille_ok ?_)
    rw [decide_eq_false (by omega)]
    exact ⟨cond_t rfl hK⟩
  · rw [decide_eq_false h]
    exact cond_t rfl ⟨cond_t rfl hK⟩

/-- The verdict. -/
def vdt (g1 b1 g2 b2 : Nat) (n m : Int) : Int := bif fl g1 b1 g2 b2 m then 3 else bif decide (((g2 + b2 : Nat) : Int) < n) then 1 else 2

theorem Decide_ok (g1 b1 g2 b2 : Nat) (n m : Int) (h1 : g1 + b1 ≤ 25) (h2 : g2 + b2 ≤ 25) (h3 : 0 ≤ n) (h4 : n ≤ 25) (h5 : 0 ≤ m) (h6 : m < 1000) {K : Int → Int → Int → Prop} (hK : K (vdt g1 b1 g2 b2 n m) 0 0) :
    L.canary_Decide g1 b1 g2 b2 n m K := by
  refine ⟨both_ok (by unfold okC; omega) (by unfold okC; omega) (cond_f rfl (isSamples_ok ?_))⟩
  rw [decide_eq_true ⟨h3, h4⟩]
  refine cond_f rfl (isPerMille_ok ?_)
  rw [decide_eq_true ⟨h5, h6⟩]
  refine ⟨cond_f rfl ⟨fails_ok g1 b1 g2 b2 m h1 h2 h5 h6 ?_⟩⟩
  rw [i64_id (n := (g2 : Int) + b2) (by omega) (by omega)]
  unfold vdt at hK
  rw [show ((g2 + b2 : Nat) : Int) = (g2 : Int) + b2 from by omega] at hK
  cases hf : fl g1 b1 g2 b2 m <;> rw [hf] at hK
  · cases hd : decide ((g2 : Int) + b2 < n) <;> rw [hd] at hK <;> exact hK
  · exact hK

theorem okC_nat {a b : Int} (h : okC a b) : ∃ g d : Nat, a = g ∧ b = d ∧ g + d ≤ 25 := by
  unfold okC at h
  obtain ⟨g, rfl⟩ := Int.eq_ofNat_of_zero_le h.1
  obtain ⟨d, rfl⟩ := Int.eq_ofNat_of_zero_le h.2.1
  exact ⟨g, d, rfl, rfl, by omega⟩

theorem Decide_any {a b c d n m : Int} {K : Int → Int → Int → Prop} (h1 : ∀ i : Int, K 0 3 i)
    (h2 : ∀ g1 b1 g2 b2 : Nat, a = g1 → b = b1 → c = g2 → d = b2 → g1 + b1 ≤ 25 → g2 + b2 ≤ 25 → 0 ≤ n → n ≤ 25 → 0 ≤ m → m < 1000 → K (vdt g1 b1 g2 b2 n m) 0 0) : L.canary_Decide a b c d n m K := by
  by_cases k1 : okC a b
  · by_cases k2 : okC c d
    · by_cases k3 : 0 ≤ n ∧ n ≤ 25 ∧ 0 ≤ m ∧ m < 1000
      · obtain ⟨g1, b1, rfl, rfl, e1⟩ := okC_nat k1
        obtain ⟨g2, b2, rfl, rfl, e2⟩ := okC_nat k2
        exact Decide_ok g1 b1 g2 b2 n m e1 e2 k3.1 k3.2.1 k3.2.2.1 k3.2.2.2 (h2 g1 b1 g2 b2 rfl rfl rfl rfl e1 e2 k3.1 k3.2.1 k3.2.2.1 k3.2.2.2)
      · exact Decide_bad3 k1 k2 k3 (h1 _)
    · exact Decide_bad2 k1 k2 (h1 _)
  · exact Decide_bad1 k1 (h1 _)

theorem vdt_fail (g1 b1 g2 b2 : Nat) (n m : Int) : (vdt g1 b1 g2 b2 n m == 3) = fl g1 b1 g2 b2 m := by
  unfold vdt
  cases fl g1 b1 g2 b2 m
  · cases decide (((g2 + b2 : Nat) : Int) < n) <;> rfl
  · rfl

def row (n : Nat) (f : Nat → Nat) : List Int := (List.range (n + 1)).map fun k => ((f k : Nat) : Int)

theorem row_len (n : Nat) (f : Nat → Nat) : (row n f).length = n + 1 := by simp [row]

theorem row_get {n k : Nat} (f : Nat → Nat) (h : k ≤ n) : (row n f).getD k 0 = f k := by
  simp [row, List.getD, List.getElem?_range (show k < n + 1 by omega)]

theorem row_set (n j w : Nat) (f : Nat → Nat) : (row n f).set j (w : Int) = row n fun k => if k = j then w else f k := by
  unfold row
  apply List.ext_getElem?
  intro k
  rw [List.getElem?_set]
  by_cases hk : k < n + 1
  · by_cases hj : j = k
    · subst hj
      simp [hk]
    · have : ¬ k = j := fun e => hj e.symm
      simp [hk, hj, this]
  · by_cases hj : j = k
    · subst hj
      simp [hk]
    · simp [hk, hj]

theorem row_congr {n : Nat} {f g : Nat → Nat} (h : ∀ k, k ≤ n → f k = g k) : row n f = row n g := by
  unfold row
  apply List.map_congr_left
  intro k hk
  have : k < n + 1 := by simpa using hk
  rw [h k (by omega)]

theorem inner {n i : Nat} (hn : n ≤ 50) (hi : i + 1 ≤ n) {K : List Int → Prop} (hK : K (row n (C (i + 1)))) : ∀ (fu j : Nat), j ≤ i + 1 → j < fu →
    L.ref8_Choose_L1_R fu j (row n fun k => if j < k then C (i + 1) k else C i k) K
  | 0, j, _, h => by omega
  | fu + 1, j, hj, h => by
    show L.ref8_Choose_L1_b j _ _ K
    unfold L.ref8_Choose_L1_b
    cases j with
    | zero =>
      refine cond_f (by simp) ?_
      have e : (row n fun k => if 0 < k then C (i + 1) k else C i k) = row n (C (i + 1)) := row_congr fun k _ => by
        cases k with
        | zero => simp [C_zero]
        | succ k => simp
      rw [e]
      exact hK
    | succ j =>
      refine cond_t (by simp) ?_
      rw [row_len, i64_id (n := ((j + 1 : Nat) : Int) - 1) (by omega) (by omega), show ((j + 1 : Nat) : Int) - 1 = (j : Int) from by omega]
      refine ⟨⟨by omega, by omega⟩, ⟨by omega, by omega⟩, ⟨by omega, by omega⟩, ?_⟩
      rw [show ((j + 1 : Nat) : Int).toNat = j + 1 from by omega, Int.toNat_natCast, row_get _ (by omega), row_get _ (by omega)]
      rw [if_neg (by omega), if_neg (by omega)]
      have hc := C_succ i j
      have hb := C_le50 (i + 1) (j + 1) (by omega)
      rw [i64_id (by omega) (by omega), show (C i (j + 1) : Int) + C i j = ((C (i + 1) (j + 1) : Nat) : Int) from by omega, row_set]
      have ih := inner hn hi hK fu j (by omega) (by omega)
      have e : (row n fun k => if k = j + 1 then C (i + 1) (j + 1) else if j + 1 < k then C (i + 1) k else C i k) = row n fun k => if j < k then C (i + 1) k else C i k := row_congr fun k _ => by
        by_cases h1 : k = j + 1
        · subst h1; simp
        · by_cases h2 : j + 1 < k
          · rw [if_neg h1, if_pos h2, if_pos (by omega)]
          · rw [if_neg h1, if_neg h2, if_neg (by omega)]
      rw [e]
      exact ih

theorem outer {n : Nat} (hn : n ≤ 50) {K : List Int → Prop} (hK : K (row n (C n))) : ∀ (fu i : Nat), i ≤ n → n - i < fu → L.ref8_Choose_L2_R n fu i (row n (C i)) K
  | 0, i, _, h => by omega
  | fu + 1, i, hi, h => by
    show L.ref8_Choose_L2_b n i _ _ K
    unfold L.ref8_Choose_L2_b
    rcases Nat.lt_or_ge i n with g | g
    · refine cond_t (by simp; omega) ?_
      rw [i64_id (n := (i : Int) + 1) (by omega) (by omega)]
      have ih := outer hn hK fu (i + 1) g (by omega)
      rw [show ((i + 1 : Nat) : Int) = (i : Int) + 1 from by omega] at ih
      have := inner (n := n) (i := i) hn g (K := fun r => L.ref8_Choose_L2_R n fu (i + 1 : Int) r K) ih (i + 2) (i + 1) (by omega) (by omega)
      have e : (row n fun k => if i + 1 < k then C (i + 1) k else C i k) = row n (C i) := row_congr fun k _ => by
        by_cases h2 : i + 1 < k
        · rw [if_pos h2, C_big (i + 1) k h2, C_big i k (by omega)]
        · rw [if_neg h2]
      rw [e, show ((i + 1 : Nat) : Int) = (i : Int) + 1 from by omega] at this
      exact ⟨⟨i + 2, this⟩⟩
    · obtain rfl : i = n := by omega
      exact cond_f (by simp) hK

theorem Choose_ok (n k : Nat) (hn : n ≤ 50) {K : Int → Prop} (hK : K (C n k)) : L.ref8_Choose n k K := by
  constructor
  unfold L.ref8_Choose_B
  rcases Nat.lt_or_ge n k with g | g
  · refine cond_t (by simp; omega) ?_
    rwa [C_big n k g] at hK
  · refine cond_f (by simp; omega) ?_
    rw [i64_id (n := (n : Int) + 1) (by omega) (by omega), show ((n : Int) + 1).toNat = n + 1 from by omega]
    refine ⟨⟨by omega, by omega, by omega⟩, ⟨by omega, by simp⟩, ⟨⟨n + 1, ?_⟩⟩⟩
    have e : (List.replicate (n + 1) (0 : Int)).set ((0 : Int).toNat) 1 = row n (C 0) := by
      have e0 : List.replicate (n + 1) (0 : Int) = row n fun _ => 0 := by
        unfold row
        apply List.ext_getElem?
        intro k
        by_cases hk : k < n + 1 <;> simp [hk]
      rw [e0, show ((0 : Int).toNat) = 0 from rfl, show (1 : Int) = ((1 : Nat) : Int) from rfl, row_set]
      exact row_congr fun k _ => by
        cases k with
        | zero => simp [C_zero]
        | succ k => simp [C]
    rw [e]
    refine outer hn (K := fun r => (inB k r.length) ∧ K (r.getD (k : Int).toNat 0)) ⟨⟨by omega, by rw [row_len]; omega⟩, ?_⟩ (n + 1) 0 (by omega) (by omega)
    rw [Int.toNat_natCast, row_get _ g]
    exact hK

theorem Ways_loop {b g n x : Nat} (hN : b + g ≤ 50) (hn : n ≤ 25) (hx : x ≤ n) {K : Int → Prop} (hK : K (W b g n x)) : ∀ (fu j : Nat), j ≤ x → x - j < fu → L.ref8_Ways_L1_R g b n x fu (W b g n j) j K
  | 0, j, _, h => by omega
  | fu + 1, j, hj, h => by
    show L.ref8_Ways_L1_b g b n x (W b g n j) j _ K
    unfold L.ref8_Ways_L1_b
    rcases Nat.lt_or_ge j x with hlt | hlt
    · refine cond_t (by simp; omega) ?_
      rw [i64_id (n := (j : Int) + 1) (by omega) (by omega), i64_id (n := (n : Int) - j) (by omega) (by omega), show (n : Int) - j = ((n - j : Nat) : Int) from by omega]
      refine Choose_ok b j (by omega) (Choose_ok g (n - j) (by omega) ?_)
      have ih := Ways_loop hN hn hx hK fu (j + 1) hlt (by omega)
      rw [show ((j + 1 : Nat) : Int) = (j : Int) + 1 from by omega] at ih
      have hW : W b g n (j + 1) = W b g n j + C b j * C g (n - j) := rfl
      have h1 := W_le b g n (j + 1) (by omega)
      have h2 := C_le50 (b + g) n hN
      have e : (C b j : Int) * (C g (n - j) : Int) = ((C b j * C g (n - j) : Nat) : Int) := by rw [Int.natCast_mul]
      rw [e]
      generalize C b j * C g (n - j) = p at *
      rw [i64_id (n := (p : Int)) (by omega) (by omega), i64_id (by omega) (by omega)]
      rw [hW] at ih
      rwa [show (W b g n j : Int) + p = ((W b g n j + p : Nat) : Int) from by omega]
    · obtain rfl : j = x := by omega
      exact cond_f (by simp) hK

theorem Ways_ok (g1 b1 g2 b2 : Nat) (h1 : g1 + b1 ≤ 25) (h2 : g2 + b2 ≤ 25) {K : Int → Int → Prop} (hK : K (W (b1 + b2) (g1 + g2) (g2 + b2) b2) (C (b1 + b2 + (g1 + g2)) (g2 + b2))) : L.ref8_Ways g1 b1 g2 b2 K := by
  constructor
  unfold L.ref8_Ways_B
  rw [i64_id (n := (g1 : Int) + g2) (by omega) (by omega), i64_id (n := (b1 : Int) + b2) (by omega) (by omega), i64_id (n := (g2 : Int) + b2) (by omega) (by omega),
    i64_id (n := (g1 : Int) + g2 + (b1 + b2)) (by omega) (by omega)]
  refine ⟨⟨b2 + 1, ?_⟩⟩
  have := Ways_loop (b := b1 + b2) (g := g1 + g2) (n := g2 + b2) (x := b2) (by omega) h2 (by omega) (K := fun s => L.ref8_Choose (↑g1 + ↑g2 + (↑b1 + ↑b2)) (↑g2 + ↑b2) fun r => K s r) (by
    have := Choose_ok (b1 + b2 + (g1 + g2)) (g2 + b2) (by omega) (K := fun r => K (W (b1 + b2) (g1 + g2) (g2 + b2) b2) r) hK
    rwa [show ((b1 + b2 + (g1 + g2) : Nat) : Int) = ↑g1 + ↑g2 + (↑b1 + ↑b2) from by omega, show ((g2 + b2 : Nat) : Int) = ↑g2 + ↑b2 from by omega] at this) (b2 + 1) 0 (by omega) (by omega)
  simpa [W] using this

theorem Verdict_ok (g1 b1 g2 b2 : Nat) (n m : Int) (h1 : g1 + b1 ≤ 25) (h2 : g2 + b2 ≤ 25) (h3 : 0 ≤ m) (h4 : m < 1000) {K : Int → Prop} (hK : K (vdt g1 b1 g2 b2 n m)) : L.ref8_Verdict g1 b1 g2 b2 n m K := by
  refine ⟨Ways_ok g1 b1 g2 b2 h1 h2 ?_⟩
  have a1 := W_le (b1 + b2) (g1 + g2) (g2 + b2) b2 (by omega)
  have a2 := C_le50 (b1 + b2 + (g1 + g2)) (g2 + b2) (by omega)
  have a3 := mul_bound h3 h4 a2
  rw [Int.mul_comm m] at a3
  rw [i64_id (n := (C (b1 + b2 + (g1 + g2)) (g2 + b2) : Int) - W (b1 + b2) (g1 + g2) (g2 + b2) b2) (by omega) (by omega), i64_id (n := _ * 1000) (by omega) (by omega), i64_id (n := (C (b1 + b2 + (g1 + g2)) (g2 + b2) : Int) * m) (by omega) (by omega),
    i64_id (n := (g2 : Int) + b2) (by omega) (by omega)]
  unfold vdt fl at hK
  rw [show ((g2 + b2 : Nat) : Int) = (g2 : Int) + b2 from by omega, Int.mul_comm m, Int.mul_comm 1000] at hK
  revert hK
  generalize decide (((C (b1 + b2 + (g1 + g2)) (g2 + b2) : Int) - W (b1 + b2) (g1 + g2) (g2 + b2) b2) * 1000 ≤ (C (b1 + b2 + (g1 + g2)) (g2 + b2) : Int) * m) = b
  generalize decide ((g2 : Int) + b2 < n) = d
  intro hK
  cases b <;> cases d <;> exact hK

theorem fl_zero (g b s : Nat) (m : Int) (h1 : g + b ≤ 25) (_h2 : s ≤ 25) (h3 : m < 1000) : fl g b s 0 m = false := by
  unfold fl
  rw [decide_eq_false_iff_not]
  have hp := C_pos (b + 0 + (g + s)) (s + 0) (by omega)
  simp only [W]
  generalize C (b + 0 + (g + s)) (s + 0) = A at *
  intro hh
  have : m * (A : Int) ≤ 999 * A := Int.mul_le_mul_of_nonneg_right (by omega) (by omega)
  omega

end Can
end Go.Proofs.Ytgedmbndmdphdaa

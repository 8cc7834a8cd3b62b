/-
  CanaryFunctionsMatchSpec as a plain law about the lifted functions. Conditions: none.
-/
import Derived.Test.YtiffkkebibddbaaCanW
namespace Go.Proofs.Ytiffkkebibddbaa
open Eng
namespace Can

def row (n : Nat) (f : Nat → Nat) : List Int := (List.range (n + 1)).map fun k => ((f k : Nat) : Int)

theorem row_len (n : Nat) (f : Nat → Nat) : (row n f).length = n + 1 := by simp [row]

theorem row_get {n k : Nat} (f : Nat → Nat) (h : k ≤ n) : (row n f).getD k 0 = f k := by
  simp [row, List.getD, List.getElem?_range (show k < n + 1 by omega)]

theorem row_set (n j w : Nat) (f : Nat → Nat) : (row n f).set j (w : Int) = row n fun k => if k = j then w else f k := by
  unfold row
  apply List.ext_getElem?
  intro k
  rw [List.getElem?_set]
  by_cases hk : k < n + 1
  · by_cases hj : j = k
    · subst hj
      simp [hk]
    · have : ¬ k = j := fun e => hj e.symm
      simp [hk, hj, this]
  · by_cases hj : j = k
    · subst hj
      simp [hk]
    · simp [hk, hj]

theorem row_congr {n : Nat} {f g : Nat → Nat} (h : ∀ k, k ≤ n → f k = g k) : row n f = row n g := by
  unfold row
  apply List.map_congr_left
  intro k hk
  have : k < n + 1 := by simpa using hk
  rw [h k (by omega)]

theorem inner {n i : Nat} (hn : n ≤ 50) (hi : i + 1 ≤ n) {K : Int → List Int → Prop} (hK : K 0 (row n (C (i + 1)))) : ∀ (fu j : Nat), j ≤ i + 1 → j < fu →
    L.ref8_Choose_L2_R fu j (row n fun k => if j < k then C (i + 1) k else C i k) K
  | 0, j, _, h => by omega
  | fu + 1, j, hj, h => by
    show L.ref8_Choose_L2_b j _ _ K
    unfold L.ref8_Choose_L2_b
    cases j with
    | zero =>
      refine cond_f (by simp) ?_
      have e : (row n fun k => if 0 < k then C (i + 1) k else C i k) = row n (C (i + 1)) := row_congr fun k _ => by
        cases k with
        | zero => simp [C_zero]
        | succ k => simp
      rw [e]
      exact hK
    | succ j =>
      refine cond_t (by simp) ?_
      rw [row_len, i64_id (n := ((j + 1 : Nat) : Int) - 1) (by omega) (by omega), show ((j + 1 : Nat) : Int) - 1 = (j : Int) from by omega]
      refine ⟨⟨by omega, by omega⟩, ⟨by omega, by omega⟩, ⟨by omega, by omega⟩, ?_⟩
      rw [show ((j + 1 : Nat) : Int).toNat = j + 1 from by omega, Int.toNat_natCast, row_get _ (by omega), row_get _ (by omega)]
      rw [if_neg (by omega), if_neg (by omega)]
      have hc := C_succ i j
      have hb := C_le50 (i + 1) (j + 1) (by omega)
      rw [i64_id (by omega) (by omega), show (C i (j + 1) : Int) + C i j = ((C (i + 1) (j + 1) : Nat) : Int) from by omega, row_set]
      have ih := inner hn hi hK fu j (by omega) (by omega)
      have e : (row n fun k => if k = j + 1 then C (i + 1) (j + 1) else if j + 1 < k then C (i + 1) k else C i k) = row n fun k => if j < k then C (i + 1) k else C i k := row_congr fun k _ => by
        by_cases h1 : k = j + 1
        · subst h1; simp
        · by_cases h2 : j + 1 < k
          · rw [if_neg h1, if_pos h2, if_pos (by omega)]
          · rw [if_neg h1, if_neg h2, if_neg (by omega)]
      rw [e]
      exact ih

theorem outer {n : Nat} (hn : n ≤ 50) {K : List Int → Prop} (hK : K (row n (C n))) : ∀ (fu i : Nat), i ≤ n → n - i < fu → L.ref8_Choose_L1_R n fu i (row n (C i)) K
  | 0, i, _, h => by omega
  | fu + 1, i, hi, h => by
    show L.ref8_Choose_L1_b n i _ _ K
    unfold L.ref8_Choose_L1_b
    rcases Nat.lt_or_ge i n with g | g
    · refine cond_t (by simp; omega) ?_
      rw [i64_id (n := (i : Int) + 1) (by omega) (by omega)]
      have ih := outer hn hK fu (i + 1) g (by omega)
      rw [show ((i + 1 : Nat) : Int) = (i : Int) + 1 from by omega] at ih
      have := inner (n := n) (i := i) hn g (K := fun _ r => L.ref8_Choose_L1_R n fu (i + 1 : Int) r K) ih (i + 2) (i + 1) (by omega) (by omega)
      have e : (row n fun k => if i + 1 < k then C (i + 1) k else C i k) = row n (C i) := row_congr fun k _ => by
        by_cases h2 : i + 1 < k
        · rw [if_pos h2, C_big (i + 1) k h2, C_big i k (by omega)]
        · rw [if_neg h2]
      rw [e, show ((i + 1 : Nat) : Int) = (i : Int) + 1 from by omega] at this
      exact ⟨⟨i + 2, this⟩⟩
    · obtain rfl : i = n := by omega
      exact cond_f (by simp) hK

theorem Choose_ok (n k : Nat) (hn : n ≤ 50) {K : Int → Prop} (hK : K (C n k)) : L.ref8_Choose n k K := by
  constructor
  unfold L.ref8_Choose_B
  rcases Nat.lt_or_ge n k with g | g
  · refine cond_t (by simp [bor]; omega) ?_
    rwa [C_big n k g] at hK
  · refine cond_f (by simp [bor]; omega) ?_
    rw [i64_id (n := (n : Int) + 1) (by omega) (by omega), show ((n : Int) + 1).toNat = n + 1 from by omega]
    refine ⟨⟨by omega, by omega, by omega⟩, ⟨by omega, by simp⟩, ⟨⟨n + 1, ?_⟩⟩⟩
    have e : (List.replicate (n + 1) (0 : Int)).set ((0 : Int).toNat) 1 = row n (C 0) := by
      have e0 : List.replicate (n + 1) (0 : Int) = row n fun _ => 0 := by
        unfold row
        apply List.ext_getElem?
        intro k
        by_cases hk : k < n + 1 <;> simp [hk, List.getElem?_replicate]
      rw [e0, show ((0 : Int).toNat) = 0 from rfl, show (1 : Int) = ((1 : Nat) : Int) from rfl, row_set]
      exact row_congr fun k _ => by
        cases k with
        | zero => simp [C_zero]
        | succ k => simp [C]
    rw [e]
    refine outer hn (K := fun r => (inB k r.length) ∧ K (r.getD (k : Int).toNat 0)) ⟨⟨by omega, by rw [row_len]; omega⟩, ?_⟩ (n + 1) 0 (by omega) (by omega)
    rw [Int.toNat_natCast, row_get _ g]
    exact hK

theorem Ways_loop {b g n x : Nat} (hN : b + g ≤ 50) (hn : n ≤ 25) (hx : x ≤ n) {K : Int → Prop} (hK : K (W b g n x)) : ∀ (fu j : Nat), j ≤ x → x - j < fu → L.ref8_Ways_L1_R g b n x fu (W b g n j) j K
  | 0, j, _, h => by omega
  | fu + 1, j, hj, h => by
    show L.ref8_Ways_L1_b g b n x (W b g n j) j _ K
    unfold L.ref8_Ways_L1_b
    rcases Nat.lt_or_ge j x with hlt | hlt
    · refine cond_t (by simp; omega) ?_
      rw [i64_id (n := (j : Int) + 1) (by omega) (by omega), i64_id (n := (n : Int) - j) (by omega) (by omega), show (n : Int) - j = ((n - j : Nat) : Int) from by omega]
      refine Choose_ok b j (by omega) (Choose_ok g (n - j) (by omega) ?_)
      have ih := Ways_loop hN hn hx hK fu (j + 1) hlt (by omega)
      rw [show ((j + 1 : Nat) : Int) = (j : Int) + 1 from by omega] at ih
      have hW : W b g n (j + 1) = W b g n j + C b j * C g (n - j) := rfl
      have h1 := W_le b g n (j + 1) (by omega)
      have h2 := C_le50 (b + g) n hN
      have e : (C b j : Int) * (C g (n - j) : Int) = ((C b j * C g (n - j) : Nat) : Int) := by rw [Int.natCast_mul]
      rw [e]
      generalize C b j * C g (n - j) = p at *
      rw [i64_id (n := (p : Int)) (by omega) (by omega), i64_id (by omega) (by omega)]
      rw [hW] at ih
      rwa [show (W b g n j : Int) + p = ((W b g n j + p : Nat) : Int) from by omega]
    · obtain rfl : j = x := by omega
      exact cond_f (by simp) hK

theorem Ways_ok (g1 b1 g2 b2 : Nat) (h1 : g1 + b1 ≤ 25) (h2 : g2 + b2 ≤ 25) {K : Int → Int → Prop} (hK : K (W (b1 + b2) (g1 + g2) (g2 + b2) b2) (C (b1 + b2 + (g1 + g2)) (g2 + b2))) : L.ref8_Ways g1 b1 g2 b2 K := by
  constructor
  unfold L.ref8_Ways_B
  rw [i64_id (n := (g1 : Int) + g2) (by omega) (by omega), i64_id (n := (b1 : Int) + b2) (by omega) (by omega), i64_id (n := (g2 : Int) + b2) (by omega) (by omega),
    i64_id (n := (g1 : Int) + g2 + (b1 + b2)) (by omega) (by omega)]
  refine ⟨⟨b2 + 1, ?_⟩⟩
  have := Ways_loop (b := b1 + b2) (g := g1 + g2) (n := g2 + b2) (x := b2) (by omega) h2 (by omega) (K := fun s => L.ref8_Choose (↑g1 + ↑g2 + (↑b1 + ↑b2)) (↑g2 + ↑b2) fun r => K s r) (by
    have := Choose_ok (b1 + b2 + (g1 + g2)) (g2 + b2) (by omega) (K := fun r => K (W (b1 + b2) (g1 + g2) (g2 + b2) b2) r) hK
    rwa [show ((b1 + b2 + (g1 + g2) : Nat) : Int) = ↑g1 + ↑g2 + (↑b1 + ↑b2) from by omega, show ((g2 + b2 : Nat) : Int) = ↑g2 + ↑b2 from by omega] at this) (b2 + 1) 0 (by omega) (by omega)
  simpa [W] using this

theorem Verdict_ok (g1 b1 g2 b2 : Nat) (n m : Int) (h1 : g1 + b1 ≤ 25) (h2 : g2 + b2 ≤ 25) (h3 : 0 ≤ m) (h4 : m < 1000) {K : Int → Prop} (hK : K (vdt g1 b1 g2 b2 n m)) : L.ref8_Verdict g1 b1 g2 b2 n m K := by
  refine ⟨Ways_ok g1 b1 g2 b2 h1 h2 ?_⟩
  have a1 := W_le (b1 + b2) (g1 + g2) (g2 + b2) b2 (by omega)
  have a2 := C_le50 (b1 + b2 + (g1 + g2)) (g2 + b2) (by omega)
  have a3 := mul_bound h3 h4 a2
  rw [Int.mul_comm m] at a3
  rw [i64_id (n := (C (b1 + b2 + (g1 + g2)) (g2 + b2) : Int) - W (b1 + b2) (g1 + g2) (g2 + b2) b2) (by omega) (by omega), i64_id (n := _ * 1000) (by omega) (by omega), i64_id (n := (C (b1 + b2 + (g1 + g2)) (g2 + b2) : Int) * m) (by omega) (by omega),
    i64_id (n := (g2 : Int) + b2) (by omega) (by omega)]
  unfold vdt fl at hK
  rw [show ((g2 + b2 : Nat) : Int) = (g2 : Int) + b2 from by omega, Int.mul_comm m, Int.mul_comm 1000] at hK
  revert hK
  generalize decide (((C (b1 + b2 + (g1 + g2)) (g2 + b2) : Int) - W (b1 + b2) (g1 + g2) (g2 + b2) b2) * 1000 ≤ (C (b1 + b2 + (g1 + g2)) (g2 + b2) : Int) * m) = b
  generalize decide ((g2 : Int) + b2 < n) = d
  intro hK
  cases b <;> cases d <;> exact hK

theorem spec_loop {g b s : Nat} {m : Int} (h1 : g + b ≤ 25) (h2 : s ≤ 25) (h3 : 0 ≤ m) (h4 : m < 1000) {K0 : Prop} {Kr : Bool → Prop} (hK : K0) : ∀ (fu j : Nat), most g b s m (s + 1) < j → j ≤ s + 1 → s + 1 - j < fu →
    L.law8_CanaryFunctionsMatchSpec_L1_R s m g b fu j K0 Kr
  | 0, j, _, _, h => by omega
  | fu + 1, j, hl, hj, h => by
    show L.law8_CanaryFunctionsMatchSpec_L1_b s m g b j _ K0 Kr
    unfold L.law8_CanaryFunctionsMatchSpec_L1_b
    rcases Nat.lt_or_ge j (s + 1) with hlt | hlt
    · refine cond_t (by simp; omega) ?_
      rw [i64_id (n := (j : Int) + 1) (by omega) (by omega), i64_id (n := (s : Int) - j) (by omega) (by omega), show (s : Int) - j = ((s - j : Nat) : Int) from by omega]
      refine Verdict_ok g b (s - j) j 0 m h1 (by omega) h3 h4 ?_
      have hf := most_fails g b s m (s + 1) j hl hlt
      have hv : vdt g b (s - j) j 0 m = 3 := by unfold vdt; rw [hf]; rfl
      rw [hv]
      refine cond_f rfl ?_
      have ih := spec_loop h1 h2 h3 h4 hK (Kr := Kr) fu (j + 1) (by omega) (by omega) (by omega)
      rwa [show ((j + 1 : Nat) : Int) = (j : Int) + 1 from by omega] at ih
    · exact cond_f (by simp; omega) hK

/-- The last part: what is tolerated. -/
theorem spec_tol {g b s : Nat} {m : Int} (h1 : g + b ≤ 25) (h2 : s ≤ 25) (h3 : 0 ≤ m) (h4 : m < 1000) {Kr : Bool → Int → Int → Prop} (hK : Kr true 0 0) : L.law8_CanaryFunctionsMatchSpec_J5 s m (most g b s m (s + 1)) g b 0 0 0 0 Kr := by
  have hlt := most_lt g b s m (s + 1)
  constructor
  unfold L.law8_CanaryFunctionsMatchSpec_J5_B
  refine cond_f rfl (cond_f (by simp [bor]; omega) ?_)
  rw [i64_id (n := (s : Int) - _) (by omega) (by omega), show (s : Int) - (most g b s m (s + 1) : Nat) = ((s - most g b s m (s + 1) : Nat) : Int) from by omega]
  refine Verdict_ok g b _ _ 0 m h1 (by omega) h3 h4 ?_
  have hv : (vdt g b (s - most g b s m (s + 1)) (most g b s m (s + 1)) 0 m == 3) = false := by
    rw [vdt_fail, most_passes g b s m h1 h2 h4]
  simp only [cond_false, hv]
  refine ⟨cond_f rfl ⟨?_⟩⟩
  unfold L.law8_CanaryFunctionsMatchSpec_J6_B
  rw [i64_id (by omega) (by omega)]
  exact ⟨⟨s + 2, by
    have := spec_loop h1 h2 h3 h4 (K0 := Kr true 0 0) (Kr := fun v => Kr v 0 0) hK (s + 2) (most g b s m (s + 1) + 1) (by omega) (by omega) (by omega)
    rwa [show ((most g b s m (s + 1) + 1 : Nat) : Int) = (most g b s m (s + 1) : Int) + 1 from by omega] at this⟩⟩

/-- What Tolerated returns is what J4 and what follows it asks for. -/
theorem spec_J4 {a b s m : Int} {Kr : Bool → Prop} (hK : Kr true) (G : Int → Int → Int → Prop)
    (hG : ∀ t f i : Int, L.law8_CanaryFunctionsMatchSpec_J4 s m t (decide (0 ≤ s ∧ s ≤ 25 ∧ 0 ≤ m ∧ m < 1000)) a b f i Kr → G t f i) : L.canary_Tolerated a b s m G := by
  have ff : ∀ (t f i : Int), t = 0 → f = 3 → L.law8_CanaryFunctionsMatchSpec_J5 s m t a b f i 3 i (fun v _ _ => Kr v) := fun t f i e1 e2 => by
    subst e1 e2
    refine ⟨cond_t rfl ?_⟩
    have e : (bif ((3 : Int) == 3 && (i == i && true)) then ((0 : Int) == 0) else false) = true := by simp
    rw [e]; exact hK
  by_cases k1 : okC a b
  · by_cases k2 : 0 ≤ s ∧ s ≤ 25
    · by_cases k3 : 0 ≤ m ∧ m < 1000
      · obtain ⟨g, d, rfl, rfl, e1⟩ := okC_nat k1
        obtain ⟨n, rfl⟩ := Int.eq_ofNat_of_zero_le k2.1
        refine Tol_ok g d n m e1 (by omega) k3.1 k3.2 (hG _ _ _ ⟨CountsValid_ok k1 (cond_f rfl (cond_f (by simp [bor]; omega) ?_))⟩)
        rw [decide_eq_true (by omega)]
        exact cond_f rfl (spec_tol e1 (by omega) k3.1 k3.2 (Kr := fun v _ _ => Kr v) hK)
      · refine Tol_bad3 k1 k2 k3 (hG _ _ _ ⟨CountsValid_ok k1 (cond_f rfl (cond_f (by simp [bor]; omega) ?_))⟩)
        rw [decide_eq_false (by omega)]
        exact cond_t rfl (Fault_ok (ff _ _ _ rfl rfl))
    · exact Tol_bad2 k1 k2 (hG _ _ _ ⟨CountsValid_ok k1 (cond_f rfl (cond_t (by simp [bor]; omega) (Fault_ok (ff _ _ _ rfl rfl))))⟩)
  · exact Tol_bad1 k1 (hG _ _ _ ⟨CountsValid_bad k1 (cond_t rfl (Fault_ok (ff _ _ _ rfl rfl)))⟩)

theorem good_eq (s m : Int) : (bif (bif (bif (decide (s ≥ 0)) then (decide (s ≤ 25)) else false) then (decide (m ≥ 0)) else false) then (decide (m < 1000)) else false) = decide (0 ≤ s ∧ s ≤ 25 ∧ 0 ≤ m ∧ m < 1000) := by
  rw [band, band, band, Bool.eq_iff_iff]; simp only [Bool.and_eq_true, decide_eq_true_eq]; omega

theorem J8_f {p : Prop} {Kr : Bool → Prop} (h : p) : L.law8_CanaryFunctionsMatchSpec_J8 false p Kr := ⟨h⟩

/-- From the faults of the sides on: Decide. -/
theorem spec_J2 {c d n m : Int} {g b : Int} {Kr : Bool → Prop} (h1 : okC g b) (h2 : okC c d) {D : Int → Int → Int → Prop}
    (hD : ∀ v f i : Int, (∀ t f2 i2 : Int, L.law8_CanaryFunctionsMatchSpec_J4 n m t (decide (0 ≤ n ∧ n ≤ 25 ∧ 0 ≤ m ∧ m < 1000)) g b f2 i2 Kr → L.law8_CanaryFunctionsMatchSpec_J2 n m v t g b c d f i f2 i2 0 Kr) → D v f i) : L.canary_Decide g b c d n m D := by
  by_cases k : 0 ≤ n ∧ n ≤ 25 ∧ 0 ≤ m ∧ m < 1000
  · obtain ⟨g1, b1, rfl, rfl, e1⟩ := okC_nat h1
    obtain ⟨g2, b2, rfl, rfl, e2⟩ := okC_nat h2
    refine Decide_ok g1 b1 g2 b2 n m e1 e2 k.1 k.2.1 k.2.2.1 k.2.2.2 (hD _ _ _ fun t f2 i2 h => ⟨?_⟩)
    unfold L.law8_CanaryFunctionsMatchSpec_J2_B
    rw [good_eq, decide_eq_true k] at *
    refine cond_f rfl ⟨cond_t rfl (cond_f rfl (Verdict_ok g1 b1 g2 b2 n m e1 e2 k.2.2.1 k.2.2.2 ?_))⟩
    have e : (bif true then (bif false then true else (vdt g1 b1 g2 b2 n m != vdt g1 b1 g2 b2 n m)) else false) = false := by simp
    rw [e]
    exact J8_f h
  · refine Decide_bad3 h1 h2 k (hD _ _ _ fun t f2 i2 h => ⟨?_⟩)
    unfold L.law8_CanaryFunctionsMatchSpec_J2_B
    rw [good_eq, decide_eq_false k] at *
    refine cond_t rfl (Fault_ok (cond_f rfl ⟨cond_f rfl (J8_f h)⟩))

theorem match_true (dG dB iG iB n m : Int) (K : Bool → Prop) (hK : K true) : L.law8_CanaryFunctionsMatchSpec dG dB iG iB n m K := by
  constructor
  unfold L.law8_CanaryFunctionsMatchSpec_B
  by_cases h1 : okC dG dB
  · -- the part behind the first test
    have pre : ∀ (r r1 v t f1 i1 f2 i2 f3 i3 : Int), L.law8_CanaryFunctionsMatchSpec_J1 n m r r1 v t dG dB iG iB f1 i1 f2 i2 f3 i3 K →
        L.law8_canaryExample (fun r4 => (bif okAll [((!r4), false)] then L.canary_Validate dG dB (fun rCode3 rIndex3 => L.ref8_CountsValid dG dB (fun r5 => (bif okAll [((!((rCode3 == 0) == r5)), false)] then L.ref8_CountsValid dG dB (fun r6 => (bif okAll [((!((rCode3 == 0) == r5)), false), ((!r6), true)] then L.canary_Validate dG dB (fun rCode4 rIndex4 => L.ref8_Fault 3 (-1) (fun rCode5 rIndex5 => L.law8_CanaryFunctionsMatchSpec_J9 (bif (!r6) then (!((rCode4 == rCode5) && ((rIndex4 == rIndex5) && true))) else false) (L.law8_CanaryFunctionsMatchSpec_J1 n m r r1 v t dG dB iG iB f1 i1 f2 i2 f3 i3 K) K)) else L.law8_CanaryFunctionsMatchSpec_J9 false (L.law8_CanaryFunctionsMatchSpec_J1 n m r r1 v t dG dB iG iB f1 i1 f2 i2 f3 i3 K) K)) else L.law8_CanaryFunctionsMatchSpec_J9 true (L.law8_CanaryFunctionsMatchSpec_J1 n m r r1 v t dG dB iG iB f1 i1 f2 i2 f3 i3 K) K))) else L.law8_CanaryFunctionsMatchSpec_J9 true (L.law8_CanaryFunctionsMatchSpec_J1 n m r r1 v t dG dB iG iB f1 i1 f2 i2 f3 i3 K) K)) :=
      fun r r1 v t f1 i1 f2 i2 f3 i3 h => example_ok (cond_t rfl (Validate_ok h1 (CountsValid_ok h1 (cond_t rfl (CountsValid_ok h1 (cond_f rfl ⟨h⟩))))))
    by_cases h2 : okC iG iB
    · obtain ⟨g1, b1, rfl, rfl, e1⟩ := okC_nat h1
      obtain ⟨g2, b2, rfl, rfl, e2⟩ := okC_nat h2
      refine Tail_ok g1 b1 g2 b2 e1 e2 (spec_J2 (Kr := K) h1 h2 fun v f i hv => spec_J4 (Kr := K) hK _ fun t f2 i2 ht => pre _ _ _ _ _ _ _ _ _ _ ⟨sides_ok h1 h2 (cond_f rfl (Ways_ok g1 b1 g2 b2 e1 e2 ?_))⟩)
      have a1 := W_le (b1 + b2) (g1 + g2) (g2 + b2) b2 (by omega)
      have a2 := C_le50 (b1 + b2 + (g1 + g2)) (g2 + b2) (by omega)
      rw [i64_id (by omega) (by omega)]
      exact cond_f (by simp) (hv t f2 i2 ht)
    · refine Tail_bad2 h1 h2 (Decide_bad2 h1 h2 (spec_J4 (Kr := K) hK _ fun t f2 i2 ht => pre _ _ _ _ _ _ _ _ _ _ ⟨sides_bad2 h1 h2 (cond_t rfl (cond_f rfl ⟨cond_f rfl ⟨cond_f rfl (J8_f ?_)⟩⟩))⟩))
      rw [good_eq]; exact ht
  · refine Tail_bad1 h1 (Decide_bad1 h1 (Tol_bad1 h1 (example_ok (cond_t rfl (Validate_bad h1 (CountsValid_bad h1 (cond_t rfl (CountsValid_bad h1 (cond_t rfl (Validate_bad h1 (Fault_ok ⟨cond_f rfl
      ⟨sides_bad1 h1 (cond_t rfl (cond_f rfl ⟨cond_f rfl ⟨cond_f rfl (J8_f ⟨CountsValid_bad h1 (cond_t rfl (Fault_ok ⟨cond_t rfl hK⟩))⟩)⟩⟩))⟩⟩)))))))))))

end Can

theorem CanaryFunctionsMatchSpec_true (xs : ArgDen [(true, (.pair (.int .i64) (.int .i64))), (true, (.pair (.int .i64) (.int .i64))), (false, (.int .i64)), (false, (.int .i64))]) (_ : WfAll _ xs) (K : Bool → Prop) (hK : K true) : L.law8_CanaryFunctionsMatchSpec xs.1.1 xs.1.2 xs.2.1.1 xs.2.1.2 xs.2.2.1 xs.2.2.2.1 K :=
  Can.match_true _ _ _ _ _ _ K hK
end Go.Proofs.Ytiffkkebibddbaa

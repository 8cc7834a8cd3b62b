/-
  Speculation: the chances of all runs of one change add up. Conditions: none.
-/
import Derived.Test.YtjlejiefkmimiaaSpY
set_option linter.unusedVariables false
namespace Go.Proofs.Ytjlejiefkmimiaa
open Eng
namespace Sp

/-- The changes of a run whose powers of two sum up to a weight. -/
def ro : Nat → Int → Nat → List Int
  | 0, _, _ => []
  | k + 1, i, w => (if w % 2 = 1 then [i] else []) ++ ro k (i + 1) (w / 2)

theorem ro_mem : ∀ (k : Nat) (i : Int) (w : Nat) (j : Int), j ∈ ro k i w → i ≤ j ∧ j < i + k
  | 0, i, w, j, h => by simp [ro] at h
  | k + 1, i, w, j, h => by
    rw [ro, List.mem_append] at h
    rcases h with h | h
    · by_cases hw : w % 2 = 1
      · rw [if_pos hw, List.mem_singleton] at h
        omega
      · rw [if_neg hw] at h; simp at h
    · have := ro_mem k (i + 1) (w / 2) j h
      omega

theorem ro_len : ∀ (k : Nat) (i : Int) (w : Nat), (ro k i w).length ≤ k
  | 0, i, w => by simp [ro]
  | k + 1, i, w => by
    rw [ro, List.length_append]
    have := ro_len k (i + 1) (w / 2)
    by_cases hw : w % 2 = 1
    · rw [if_pos hw]; simp; omega
    · rw [if_neg hw]; simp; omega

theorem RunOf_loop {last : Int} {K : List Int → Prop} : ∀ (k : Nat) (i : Int) (w : Nat) (o : List Int), i + k = last → 0 ≤ i → last ≤ 100 → (w : Int) ≤ 1000000 → (o.length : Int) ≤ i → K (o ++ ro k i w) → L.ref8_RunOf_L1_R last (k + 1) w i o K
  | 0, i, w, o, hi, h0, hl, hw, ho, hK => by
    show L.ref8_RunOf_L1_b last w i o _ _
    rw [ro, List.append_nil] at hK
    exact cond_f (by simp; omega) hK
  | k + 1, i, w, o, hi, h0, hl, hw, ho, hK => by
    show L.ref8_RunOf_L1_b last w i o _ _
    have ei : i64 (i + 1) = i + 1 := i64_id (by omega) (by omega)
    have ed : (w : Int).tdiv 2 = ((w / 2 : Nat) : Int) := by
      rw [Int.tdiv_eq_ediv_of_nonneg (by omega)]; rfl
    have em : (w : Int).tmod 2 = ((w % 2 : Nat) : Int) := by
      rw [Int.tmod_eq_emod_of_nonneg (by omega)]; rfl
    have e2 : i64 ((w : Int).tdiv 2) = ((w / 2 : Nat) : Int) := by rw [ed]; exact i64_id (by omega) (by omega)
    rw [ro, ← List.append_assoc] at hK
    refine cond_t (by simp; omega) ⟨by decide, ?_⟩
    by_cases hb : w % 2 = 1
    · rw [if_pos hb] at hK
      refine cond_t (by rw [em, hb]; rfl) ⟨fits_of (by simp; omega), by decide, ?_⟩
      show L.ref8_RunOf_L1_R last (k + 1) (i64 ((w : Int).tdiv 2)) (i64 (i + 1)) (o ++ [i]) K
      rw [ei, e2]
      exact RunOf_loop k (i + 1) (w / 2) _ (by omega) (by omega) hl (by omega) (by simp; omega) hK
    · rw [if_neg hb, List.append_nil] at hK
      refine cond_f (by rw [em, show w % 2 = 0 by omega]; rfl) ⟨by decide, ?_⟩
      show L.ref8_RunOf_L1_R last (k + 1) (i64 ((w : Int).tdiv 2)) (i64 (i + 1)) o K
      rw [ei, e2]
      exact RunOf_loop k (i + 1) (w / 2) _ (by omega) (by omega) hl (by omega) (by omega) hK

theorem RunOf_ok {last : Int} {w : Nat} (h0 : 0 ≤ last) (hl : last ≤ 100) (hw : (w : Int) ≤ 1000000) {K : Int → List Int → Prop} (hK : K last (ro last.toNat 0 w)) : L.ref8_RunOf last w K :=
  ⟨⟨last.toNat + 1, RunOf_loop last.toNat 0 w [] (by omega) (by omega) hl hw (by simp) (by rw [List.nil_append]; exact hK)⟩⟩

theorem rcl_ro {n : Int} : ∀ (k : Nat) (i : Int) (w : Nat) (p : Int), i + k ≤ n → 0 ≤ i → p < i → rcl n p (ro k i w) = 0
  | 0, i, w, p, _, _, _ => by rw [ro, rcl]
  | k + 1, i, w, p, hn, h0, hp => by
    rw [ro]
    by_cases hw : w % 2 = 1
    · rw [if_pos hw, List.singleton_append, rcl, if_neg (by omega), if_neg (by omega)]
      exact rcl_ro k (i + 1) (w / 2) i (by omega) (by omega) (by omega)
    · rw [if_neg hw, List.nil_append]
      exact rcl_ro k (i + 1) (w / 2) p (by omega) (by omega) (by omega)

theorem rcode_ro {n last : Int} (h0 : 0 ≤ last) (hl : last < n) (w : Nat) : rcode n last (ro last.toNat 0 w) = 0 := by
  unfold rcode
  rw [if_neg (by omega)]
  exact rcl_ro last.toNat 0 w (-1) (by omega) (by omega) (by omega)

/-- The chance of the run of a weight. -/
def F : Nat → List Int → Int → Nat → Int
  | _, [], o, _ => o
  | 0, _ :: l, o, w => F 0 l (o * 100) w
  | k + 1, x :: l, o, w => F k l (if w % 2 = 1 then o * x else o * (100 - x)) (w / 2)

/-- All are percentages. -/
def pc (l : List Int) : Prop := ∀ x, x ∈ l → 0 ≤ x ∧ x ≤ 100

def P100 : Nat → Int
  | 0 => 1
  | n + 1 => 100 * P100 n

theorem P100_pos : ∀ n, 0 < P100 n
  | 0 => by simp [P100]
  | n + 1 => by have := P100_pos n; simp only [P100]; omega

theorem P100_le : ∀ {n : Nat}, n ≤ 8 → P100 n ≤ 10000000000000000
  | 0, _ | 1, _ | 2, _ | 3, _ | 4, _ | 5, _ | 6, _ | 7, _ | 8, _ => by decide
  | n + 9, h => by omega

theorem P100_mono : ∀ {m n : Nat}, m ≤ n → P100 m ≤ P100 n
  | m, 0, h => by rw [show m = 0 by omega]; exact Int.le_refl _
  | m, n + 1, h => by
    rcases Nat.lt_or_ge n m with g | g
    · rw [show m = n + 1 by omega]; exact Int.le_refl _
    · have := P100_mono g; have := P100_pos n; simp only [P100]; omega

theorem mul_le {o x q : Int} (h0 : 0 ≤ o) (hx : x ≤ 100) (ho : o * 100 ≤ q) : o * x ≤ q :=
  Int.le_trans (Int.mul_le_mul_of_nonneg_left hx h0) ho

/-- Without overflow: the chance that the program computes is the chance. -/
theorem chs_F {last : Int} {W : List Int} : ∀ (l : List Int) (i k : Nat) (w : Nat) (o : Int) (n : Nat), pc l → (i : Int) + k = max last i → (∀ j : Int, (i : Int) ≤ j → (j ∈ W ↔ j ∈ ro k i w)) → 0 ≤ o → o * P100 l.length ≤ 10000000000000000 →
    chs last W i l o = F k l o w ∧ 0 ≤ F k l o w ∧ F k l o w ≤ o * P100 l.length
  | [], i, k, w, o, n, hp, hk, hW, h0, ho => by
    cases k <;> simp only [chs, F, List.length_nil, P100, Int.mul_one] <;> exact ⟨trivial, h0, Int.le_refl _⟩
  | x :: l, i, k, w, o, n, hp, hk, hW, h0, ho => by
    have hx := hp x (by simp)
    have hp' : pc l := fun y hy => hp y (by simp [hy])
    simp only [List.length_cons, P100] at ho
    have hP := P100_pos l.length
    have ho1 : o * 100 * P100 l.length ≤ 10000000000000000 := by rw [Int.mul_assoc]; exact ho
    have ho2 : o * 100 ≤ 10000000000000000 := by
      have h1 : o * 100 * 1 ≤ o * 100 * P100 l.length := Int.mul_le_mul_of_nonneg_left (by omega) (by omega)
      omega
    have step : ∀ (y : Int) (k' : Nat) (w' : Nat), 0 ≤ y → y ≤ 100 → ((i + 1 : Nat) : Int) + k' = max last (i + 1 : Nat) → (∀ j : Int, ((i + 1 : Nat) : Int) ≤ j → (j ∈ W ↔ j ∈ ro k' (i + 1 : Nat) w')) →
        chs last W (i + 1) l (o * y) = F k' l (o * y) w' ∧ 0 ≤ F k' l (o * y) w' ∧ F k' l (o * y) w' ≤ o * (100 * P100 l.length) := by
      intro y k' w' hy0 hy hk' hW'
      have hoy : 0 ≤ o * y := Int.mul_nonneg h0 hy0
      have hle : o * y * P100 l.length ≤ o * (100 * P100 l.length) := by
        rw [← Int.mul_assoc]
        exact Int.mul_le_mul_of_nonneg_right (Int.mul_le_mul_of_nonneg_left hy h0) (by omega)
      obtain ⟨g1, g2, g3⟩ := chs_F l (i + 1) k' w' (o * y) n hp' hk' hW' hoy (by omega)
      exact ⟨g1, g2, by omega⟩
    simp only [List.length_cons, P100]
    rw [chs]
    by_cases hli : last ≤ i
    · obtain rfl : k = 0 := by omega
      rw [if_pos hli, i64_id (by omega) (by omega), F]
      exact step 100 0 w (by omega) (by omega) (by omega) (fun j hj => by
        have := hW j (by omega)
        rw [this]; simp [ro])
    · rw [if_neg hli]
      obtain ⟨k', rfl⟩ : ∃ k', k = k' + 1 := ⟨k - 1, by omega⟩
      have hmem : (i : Int) ∈ W ↔ w % 2 = 1 := by
        rw [hW i (by omega), ro, List.mem_append]
        constructor
        · rintro (h | h)
          · by_cases hw : w % 2 = 1
            · exact hw
            · rw [if_neg hw] at h; simp at h
          · have := ro_mem _ _ _ _ h; omega
        · intro hw
          exact .inl (by rw [if_pos hw]; simp)
      have hW' : ∀ j : Int, ((i + 1 : Nat) : Int) ≤ j → (j ∈ W ↔ j ∈ ro k' (i + 1 : Nat) (w / 2)) := by
        intro j hj
        rw [hW j (by omega), ro, List.mem_append]
        constructor
        · rintro (h | h)
          · by_cases hw : w % 2 = 1
            · rw [if_pos hw, List.mem_singleton] at h; omega
            · rw [if_neg hw] at h; simp at h
          · exact h
        · exact .inr
      rw [F]
      have e1 : i64 (100 - x) = 100 - x := i64_id (by omega) (by omega)
      by_cases hw : w % 2 = 1
      · rw [if_pos (hmem.2 hw), if_pos hw, i64_id (by have := Int.mul_nonneg h0 hx.1; omega) (by have := mul_le h0 hx.2 ho2; omega)]
        exact step x k' (w / 2) hx.1 hx.2 (by omega) hW'
      · rw [if_neg (fun h => hw (hmem.1 h)), if_neg hw, e1, i64_id (by have := Int.mul_nonneg h0 (show 0 ≤ 100 - x by omega); omega) (by have := mul_le h0 (show 100 - x ≤ 100 by omega) ho2; omega)]
        exact step (100 - x) k' (w / 2) (by omega) (by omega) (by omega) hW'

/-- The sum of the first values. -/
def sumTo (f : Nat → Int) : Nat → Int
  | 0 => 0
  | n + 1 => sumTo f n + f n

theorem sumTo_two (f : Nat → Int) : ∀ n, sumTo f (2 * n) = sumTo (fun w => f (2 * w) + f (2 * w + 1)) n
  | 0 => rfl
  | n + 1 => by
    rw [show 2 * (n + 1) = 2 * n + 1 + 1 by omega]
    simp only [sumTo]
    rw [sumTo_two f n]
    omega

theorem sumTo_congr {f g : Nat → Int} : ∀ n, (∀ i, i < n → f i = g i) → sumTo f n = sumTo g n
  | 0, _ => rfl
  | n + 1, h => by simp only [sumTo]; rw [sumTo_congr n fun i hi => h i (by omega), h n (by omega)]

theorem sumTo_mul (f : Nat → Int) (c : Int) : ∀ n, sumTo (fun w => f w * c) n = sumTo f n * c
  | 0 => by simp [sumTo]
  | n + 1 => by simp only [sumTo]; rw [sumTo_mul f c n, Int.add_mul]

theorem sumTo_mono (f : Nat → Int) : ∀ n m, m ≤ n → (∀ i, i < n → 0 ≤ f i) → 0 ≤ sumTo f m ∧ sumTo f m ≤ sumTo f n
  | 0, m, h, _ => by rw [show m = 0 by omega]; simp [sumTo]
  | n + 1, m, h, hf => by
    rcases Nat.lt_or_ge n m with g | g
    · rw [show m = n + 1 by omega]
      have := sumTo_mono f n n (Nat.le_refl _) fun i hi => hf i (by omega)
      have := hf n (by omega)
      simp only [sumTo]; omega
    · have := sumTo_mono f n m g fun i hi => hf i (by omega)
      have := hf n (by omega)
      simp only [sumTo]; omega

theorem F_zero : ∀ (l : List Int) (o : Int) (w : Nat), F 0 l o w = o * P100 l.length
  | [], o, w => by simp [F, P100]
  | x :: l, o, w => by rw [F, F_zero l, List.length_cons, P100, Int.mul_assoc]

theorem F_sum : ∀ (k : Nat) (l : List Int) (o : Int), k ≤ l.length → sumTo (F k l o) (2 ^ k) = o * P100 l.length
  | 0, l, o, _ => by
    have : sumTo (F 0 l o) (2 ^ 0) = F 0 l o 0 := by simp [sumTo]
    rw [this, F_zero]
  | k + 1, [], o, h => by simp at h
  | k + 1, x :: l, o, h => by
    rw [Nat.pow_succ, Nat.mul_comm, sumTo_two]
    have e : ∀ w, w < 2 ^ k → F (k + 1) (x :: l) o (2 * w) + F (k + 1) (x :: l) o (2 * w + 1) = F k l (o * (100 - x)) w + F k l (o * x) w := by
      intro w _
      rw [F, F, if_neg (by omega), if_pos (by omega), show 2 * w / 2 = w by omega, show (2 * w + 1) / 2 = w by omega]
    rw [sumTo_congr _ e]
    have add : ∀ (f g : Nat → Int) n, sumTo (fun w => f w + g w) n = sumTo f n + sumTo g n := by
      intro f g n
      induction n with
      | zero => rfl
      | succ n ih => simp only [sumTo]; rw [ih]; omega
    rw [add, F_sum k l _ (by simpa using h), F_sum k l _ (by simpa using h), List.length_cons, P100, ← Int.add_mul, ← Int.mul_add, show (100 - x + x : Int) = 100 by omega, Int.mul_assoc]

theorem pfl_pc : ∀ (l : List Int) (i : Int), pfl i l = (0, 0) → pc l
  | [], _, _ => fun x hx => by simp at hx
  | x :: l, i, h => by
    rw [pfl] at h
    by_cases hx : x < 0 ∨ 100 < x
    · rw [if_pos hx] at h; cases h
    · rw [if_neg hx] at h
      intro y hy
      rcases List.mem_cons.1 hy with rfl | hy
      · omega
      · exact pfl_pc l _ h y hy

theorem pf_pc {l : List Int} (h : pf l = (0, 0)) : l.length ≤ 8 ∧ pc l := by
  unfold pf at h
  by_cases hl : 8 < l.length
  · rw [if_pos hl] at h; cases h
  · rw [if_neg hl] at h
    exact ⟨by omega, pfl_pc l 0 h⟩

theorem pfl_cases : ∀ (l : List Int) (i : Int), pfl i l = (0, 0) ∨ (pfl i l).1 ≠ 0
  | [], _ => .inl rfl
  | x :: l, i => by
    rw [pfl]
    by_cases hx : x < 0 ∨ 100 < x
    · rw [if_pos hx]; exact .inr (show (3 : Int) ≠ 0 by decide)
    · rw [if_neg hx]; exact pfl_cases l (i + 1)

theorem pf_cases (l : List Int) : pf l = (0, 0) ∨ (pf l).1 ≠ 0 := by
  unfold pf
  by_cases hl : 8 < l.length
  · rw [if_pos hl]; exact .inr (by decide)
  · rw [if_neg hl]; exact pfl_cases l 0

theorem PercentsFault_loop {l : List Int} (hl : l.length ≤ 8) {X : Prop} {K : Int → Int → Prop} (hX : K 0 0 → X) : ∀ (fu i : Nat), i ≤ l.length → l.length - i < fu → K (pfl i (l.drop i)).1 (pfl i (l.drop i)).2 → L.ref8_PercentsFault_L1_R l fu i X K
  | 0, i, _, h, _ => by omega
  | fu + 1, i, hi, hf, hK => by
    show L.ref8_PercentsFault_L1_b l i _ _ _
    unfold L.ref8_PercentsFault_L1_b
    rcases Nat.lt_or_ge i l.length with g | g
    · rw [drop_cons 0 g, pfl] at hK
      refine cond_t (by simp; omega) ⟨inB_of (by omega) (by omega), fun _ => inB_of (by omega) (by omega), ?_⟩
      have e : (i : Int).toNat = i := by omega
      rw [e]
      by_cases h1 : l.getD i 0 < 0 ∨ 100 < l.getD i 0
      · rw [if_pos h1] at hK
        refine cond_t ?_ (Fault_ok hK)
        rcases h1 with h1 | h1
        · rw [decide_eq_true h1]; rfl
        · rw [decide_eq_true (p := l.getD i 0 > 100) h1]; cases decide (l.getD i 0 < 0) <;> rfl
      · rw [if_neg h1] at hK
        refine cond_f ?_ ?_
        · rw [decide_eq_false (show ¬ l.getD i 0 < 0 by omega), decide_eq_false (show ¬ l.getD i 0 > 100 by omega)]; rfl
        · show L.ref8_PercentsFault_L1_R l fu (i64 ((i : Int) + 1)) X K
          rw [i64_id (by omega) (by omega)]
          exact PercentsFault_loop hl hX fu (i + 1) (by omega) (by omega) hK
    · rw [List.drop_eq_nil_of_le g, pfl] at hK
      exact cond_f (by simp; omega) (hX hK)

theorem PercentsFault_ok {l : List Int} {K : Int → Int → Prop} (hK : K (pf l).1 (pf l).2) : L.ref8_PercentsFault l K := by
  constructor
  unfold L.ref8_PercentsFault_B
  unfold pf at hK
  by_cases h : 8 < l.length
  · rw [if_pos h] at hK
    exact cond_t (by simp; omega) (Fault_ok hK)
  · rw [if_neg h] at hK
    exact cond_f (by simp; omega) ⟨⟨l.length + 1, PercentsFault_loop (by omega) (fun h => Fault_ok h) _ 0 (by omega) (by omega) hK⟩⟩

/-- The chance of a weight's run: what the program computes. -/
theorem chance_F {l : List Int} {last : Int} {w : Nat} (hl : l.length ≤ 8) (hp : pc l) (h0 : 0 ≤ last) :
    chs last (ro last.toNat 0 w) 0 l 1 = F last.toNat l 1 w ∧ 0 ≤ F last.toNat l 1 w ∧ F last.toNat l 1 w ≤ P100 l.length := by
  have := P100_le hl
  obtain ⟨g1, g2, g3⟩ := chs_F (W := ro last.toNat 0 w) (last := last) l 0 last.toNat w 1 0 hp (by omega) (fun j _ => Iff.rfl) (by omega) (by omega)
  exact ⟨g1, g2, by omega⟩

theorem shl_ok {last : Int} (h0 : 0 ≤ last) (hl : last ≤ 8) : IntKind.wrap .i64 ((1 : Int) * 2 ^ (min last.toNat 64)) = ((2 ^ last.toNat : Nat) : Int) := by
  have h : last.toNat ≤ 8 := by omega
  generalize last.toNat = k at h
  revert h; revert k
  decide

theorem Sum_loop {l : List Int} {last : Int} (hf : pf l = (0, 0)) (h0 : 0 ≤ last) (hlt : last < l.length) {K : Int → Prop} {Kr : Bool → Prop} (hK : K (P100 l.length)) : ∀ (fu w : Nat), w ≤ 2 ^ last.toNat → 2 ^ last.toNat - w < fu →
    L.law8_SpeculateChancesAddUp_L1_R l last fu (sumTo (F last.toNat l 1) w) w K Kr
  | 0, w, _, h => by omega
  | fu + 1, w, hw, hfu => by
    obtain ⟨hl, hp⟩ := pf_pc hf
    have hall := F_sum last.toNat l 1 (by omega)
    rw [Int.one_mul] at hall
    have hP := P100_le hl
    have h256 : 2 ^ last.toNat ≤ 2 ^ 8 := Nat.pow_le_pow_right (by omega) (by omega)
    have hm := fun m hm => sumTo_mono (F last.toNat l 1) (2 ^ last.toNat) m hm (fun i _ => (chance_F hl hp h0).2.1)
    show L.law8_SpeculateChancesAddUp_L1_b l last _ w _ _ _
    unfold L.law8_SpeculateChancesAddUp_L1_b
    refine ⟨h0, ?_⟩
    rw [shl_ok h0 (by omega)]
    rcases Nat.lt_or_ge w (2 ^ last.toNat) with g | g
    · obtain ⟨g1, g2, g3⟩ := chance_F (w := w) hl hp h0
      have hm1 := hm (w + 1) (by omega)
      rw [sumTo, hall] at hm1
      refine cond_t (by simp only [decide_eq_true_eq]; omega) (RunOf_ok h0 (by omega) (by omega) (Chance_ok hf hl (by have := ro_len last.toNat 0 w; unfold big; omega) (rcode_ro h0 hlt w) ?_))
      rw [g1]
      refine cond_f ?_ ?_
      · rw [decide_eq_false (by omega)]; rfl
      · show L.law8_SpeculateChancesAddUp_L1_R l last fu (i64 (sumTo (F last.toNat l 1) w + F last.toNat l 1 w)) (i64 ((w : Int) + 1)) K Kr
        rw [i64_id (by omega) (by omega), i64_id (n := (w : Int) + 1) (by omega) (by omega)]
        exact Sum_loop hf h0 hlt hK fu (w + 1) (by omega) (by omega)
    · obtain rfl : w = 2 ^ last.toNat := by omega
      rw [hall]
      exact cond_f (by simp) hK

theorem Div_loop {l : List Int} (hl : l.length ≤ 8) {K : Int → Prop} {Kr : Bool → Prop} (hK : K 1) : ∀ (k : Nat) (i : Int), i + k = l.length → 0 ≤ i → L.law8_SpeculateChancesAddUp_L2_R l (k + 1) (P100 k) i K Kr
  | 0, i, hi, h0 => by
    show L.law8_SpeculateChancesAddUp_L2_b l 1 i _ _ _
    exact cond_f (by simp only [decide_eq_false_iff_not]; omega) hK
  | k + 1, i, hi, h0 => by
    have hP := P100_pos k
    have hle := P100_le (n := k) (by omega)
    show L.law8_SpeculateChancesAddUp_L2_b l (P100 (k + 1)) i _ _ _
    unfold L.law8_SpeculateChancesAddUp_L2_b
    have e1 : (P100 (k + 1)).tmod 100 = 0 := by rw [P100]; exact Int.mul_tmod_right _ _
    have e2 : (P100 (k + 1)).tdiv 100 = P100 k := by rw [P100]; exact Int.mul_tdiv_cancel_left _ (by omega)
    rw [e1, e2]
    refine cond_t (by simp only [decide_eq_true_eq]; omega) ⟨by decide, cond_f (by decide) ⟨by decide, ?_⟩⟩
    show L.law8_SpeculateChancesAddUp_L2_R l (k + 1) (i64 (P100 k)) (i64 (i + 1)) K Kr
    rw [i64_id (by omega) (by omega), i64_id (by omega) (by omega)]
    exact Div_loop hl hK k (i + 1) (by omega) (by omega)

theorem chances_true {l : List Int} {last : Int} (K : Bool → Prop) (hK : K true) : L.law8_SpeculateChancesAddUp l last K := by
  constructor
  unfold L.law8_SpeculateChancesAddUp_B
  refine example_ok _ (cond_f (by decide) (PercentsFault_ok ?_))
  rcases pf_cases l with h | h
  · rw [h]
    by_cases g : last < 0 ∨ (l.length : Int) ≤ last
    · refine cond_t ?_ hK
      rcases g with g | g
      · rw [decide_eq_true g]; rfl
      · rw [decide_eq_true (p := last ≥ (l.length : Int)) g]; cases decide (last < 0) <;> rfl
    · obtain ⟨hl, hp⟩ := pf_pc h
      refine cond_f ?_ ⟨⟨_, Sum_loop h (by omega) (by omega) ?_ (2 ^ last.toNat + 1) 0 (Nat.zero_le _) (Nat.lt_succ_of_le (Nat.sub_le _ _))⟩⟩
      · rw [decide_eq_false (by omega), decide_eq_false (by omega)]; rfl
      · refine ⟨⟨_, Div_loop hl ?_ l.length 0 (by omega) (by omega)⟩⟩
        exact hK
  · refine cond_t ?_ hK
    have : ((pf l).1 != 0) = true := by simpa using h
    rw [this]; rfl

end Sp

theorem SpeculateChancesAddUp_true (xs : ArgDen [(false, (.slice (.int .i64))), (false, (.int .i64))]) (hw : WfAll _ xs) (K : Bool → Prop) (hK : K true) : L.law8_SpeculateChancesAddUp xs.1 xs.2.1 K :=
  Sp.chances_true K hK

end Go.Proofs.Ytjlejiefkmimiaa

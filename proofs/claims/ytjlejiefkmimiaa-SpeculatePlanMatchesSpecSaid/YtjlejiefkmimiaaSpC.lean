/-
  Speculation: decisions. Conditions: none.
-/
import Derived.Test.YtjlejiefkmimiaaSpB
set_option linter.unusedVariables false
namespace Go.Proofs.Ytjlejiefkmimiaa
open Eng
namespace Sp

/-- The result of a run. -/
def fnd : List T → Int → List Int → Option Bool
  | [], _, _ => none
  | x :: r, i, m => if eqr x.1.1 x.1.2 i m = true then some x.2 else fnd r i m

/-- What lands and what is rejected, from a state on. -/
def dc (l : List T) : Nat → Int → List Int → List Int → List Int × List Int
  | 0, _, a, b => (a, b)
  | k + 1, i, a, b => match fnd l i a with
    | none => (a, b)
    | some true => dc l k (i + 1) (a ++ [i]) b
    | some false => dc l k (i + 1) a (b ++ [i])

theorem rfl'_cases (n : Int) : ∀ (l : List T) (i : Int) (s : List T), rfl' n i s l = (0, 0) ∨ (rfl' n i s l).1 ≠ 0
  | [], _, _ => .inl rfl
  | x :: r, i, s => by
    unfold rfl'
    split
    · next h => exact .inr h
    · split
      · exact .inr (by show (19 : Int) ≠ 0; omega)
      · exact rfl'_cases n r _ _

theorem rf_cases (n : Int) (l : List T) : rf n l = (0, 0) ∨ (rf n l).1 ≠ 0 := by
  unfold rf
  split
  · exact .inr (by show (3 : Int) ≠ 0; omega)
  · split
    · exact .inr (by show (2 : Int) ≠ 0; omega)
    · exact rfl'_cases n l 0 []

theorem rf_small {n : Int} {l : List T} (h : rf n l = (0, 0)) : 0 ≤ n ∧ n ≤ 8 ∧ l.length ≤ 16 := by
  unfold rf at h
  split at h
  · have := congrArg Prod.fst h
    simp at this
  · next h1 =>
    split at h
    · have := congrArg Prod.fst h
      simp at this
    · omega

theorem IndexSame_loop {l : List T} (hb : bigs l) (hl : l.length ≤ 16) {c : Int} {m : List Int} {K : Int → Prop} : ∀ (fu k : Nat), k ≤ l.length → l.length - k < fu → (∀ j : Nat, j < l.length → fnd (l.drop k) c m = some (l.getD j d0).2 → K j) → (fnd (l.drop k) c m = none → K (-1)) →
    L.slices_IndexFunc_v23_L1_R l c m l.length fu k (K (-1)) K
  | 0, k, _, h, _, _ => by omega
  | fu + 1, k, hk, h, hT, hF => by
    show L.slices_IndexFunc_v23_L1_b l c m l.length k _ _ _
    unfold L.slices_IndexFunc_v23_L1_b
    rcases Nat.lt_or_ge k l.length with g | g
    · rw [drop_cons d0 g] at hT hF
      have e : l.getD (k : Int).toNat ((0, []), false) = l.getD k d0 := rfl
      rw [e]
      have hx : big (l.getD k d0).1.2.length := hb _ (getD_mem d0 g)
      refine cond_t (by simp; omega) ⟨inB_of (by omega) (by omega), ⟨same_ok hx ?_⟩⟩
      cases hc : eqr (l.getD k d0).1.1 (l.getD k d0).1.2 c m with
      | true =>
        exact hT k g (by rw [fnd, if_pos hc])
      | false =>
        show L.slices_IndexFunc_v23_L1_R l c m l.length fu (i64 ((k : Int) + 1)) (K (-1)) K
        rw [i64_id (by omega) (by omega)]
        refine IndexSame_loop hb hl fu (k + 1) (by omega) (by omega) (fun j hj hh => hT j hj ?_) (fun hh => hF ?_)
        · rw [fnd, if_neg (by rw [hc]; simp)]; exact hh
        · rw [fnd, if_neg (by rw [hc]; simp)]; exact hh
    · rw [List.drop_eq_nil_of_le g] at hF
      exact cond_f (by simp; omega) (hF rfl)

theorem IndexSame_ok {l : List T} (hb : bigs l) (hl : l.length ≤ 16) {c : Int} {m : List Int} {K : Int → Prop} (hT : ∀ j : Nat, j < l.length → fnd l c m = some (l.getD j d0).2 → K j) (hF : fnd l c m = none → K (-1)) : L.slices_IndexFunc_v23 l c m K :=
  ⟨⟨l.length + 1, IndexSame_loop (K := K) hb hl (l.length + 1) 0 (by omega) (by omega) (fun j hj h => hT j hj (by rwa [List.drop_zero] at h)) (fun h => hF (by rwa [List.drop_zero] at h))⟩⟩

theorem Decide_loop {l : List T} (hb : bigs l) (hl : l.length ≤ 16) {n : Int} (hn : n ≤ 8) {K : List Int → List Int → Int → Int → Prop} : ∀ (k : Nat) (i : Int) (a b : List Int), i + k = n → 0 ≤ i → a.length ≤ i → b.length ≤ i → K (dc l k i a b).1 (dc l k i a b).2 0 0 →
    L.speculate_Decide_L1_R l n (k + 1) i a b (fun landed rejected => K landed rejected 0 0) (fun landed rejected m m1 => K landed rejected m m1)
  | 0, i, a, b, hi, h0, ha, hb', hK => by
    show L.speculate_Decide_L1_b l n i a b _ _ _
    exact cond_f (by simp; omega) hK
  | k + 1, i, a, b, hi, h0, ha, hb', hK => by
    show L.speculate_Decide_L1_b l n i a b _ _ _
    unfold L.speculate_Decide_L1_b
    refine cond_t (by simp; omega) (IndexSame_ok hb hl (fun j hj hf => ?_) (fun hf => ?_))
    · rw [dc, hf] at hK
      refine cond_f (by simp) ⟨inB_of (by omega) (by omega), ?_⟩
      have e : l.getD (j : Int).toNat ((0, []), false) = l.getD j d0 := rfl
      rw [e]
      cases hp : (l.getD j d0).2 with
      | true =>
        rw [hp] at hK
        refine cond_t rfl ⟨fits_of (by simp; omega), ?_⟩
        show L.speculate_Decide_L1_R l n (k + 1) (i64 (i + 1)) (a ++ [i]) b _ _
        rw [i64_id (by omega) (by omega)]
        exact Decide_loop hb hl hn k (i + 1) (a ++ [i]) b (by omega) (by omega) (by simp; omega) (by omega) hK
      | false =>
        rw [hp] at hK
        refine cond_f rfl ⟨fits_of (by simp; omega), ?_⟩
        show L.speculate_Decide_L1_R l n (k + 1) (i64 (i + 1)) a (b ++ [i]) _ _
        rw [i64_id (by omega) (by omega)]
        exact Decide_loop hb hl hn k (i + 1) a (b ++ [i]) (by omega) (by omega) (by omega) (by simp; omega) hK
    · rw [dc, hf] at hK
      exact cond_t (by decide) hK

theorem Decide_ok {n : Int} {l : List T} (hb : bigs l) (hf : rf n l = (0, 0)) {K : List Int → List Int → Int → Int → Prop} (hK : K (dc l n.toNat 0 [] []).1 (dc l n.toNat 0 [] []).2 0 0) : L.speculate_Decide n l K := by
  obtain ⟨h1, h2, h3⟩ := rf_small hf
  constructor
  unfold L.speculate_Decide_B
  refine checkResults_ok hb ?_
  rw [hf]
  exact cond_f (by decide) ⟨⟨n.toNat + 1, Decide_loop hb h3 h2 n.toNat 0 [] [] (by omega) (by omega) (by simp) (by simp) hK⟩⟩

theorem Decide_bad {n : Int} {l : List T} (hb : bigs l) (hf : (rf n l).1 ≠ 0) {K : List Int → List Int → Int → Int → Prop} (hK : K [] [] (rf n l).1 (rf n l).2) : L.speculate_Decide n l K := by
  constructor
  unfold L.speculate_Decide_B
  refine checkResults_ok hb ?_
  exact cond_t (by simp [hf]) hK

/-- The specification's decisions. -/
theorem RDecide_loop {l : List T} (hb : bigs l) (hl : l.length ≤ 16) {n : Int} {a b : List Int} {i : Int} (hi : i < n) {rc : Int → List T → List Int → List Int → (List Int → List Int → Prop) → Prop} {K : List Int → List Int → Prop} (ha : a.length ≤ 8) (hb' : b.length ≤ 8)
    (h1 : fnd l i a = some true → rc n l (a ++ [i]) b K) (h2 : fnd l i a = some false → rc n l a (b ++ [i]) K) (h3 : fnd l i a = none → K a b) : ∀ (fu k : Nat), k ≤ l.length → l.length - k < fu → fnd (l.drop k) i a = fnd l i a →
    L.ref8_Decide_h29_L1_R rc n l a b i a fu k (K a b) K
  | 0, k, _, h, _ => by omega
  | fu + 1, k, hk, h, he => by
    show L.ref8_Decide_h29_L1_b rc n l a b i a k _ _ _
    unfold L.ref8_Decide_h29_L1_b
    rcases Nat.lt_or_ge k l.length with g | g
    · rw [drop_cons d0 g, fnd] at he
      have e : l.getD (k : Int).toNat ((0, []), false) = l.getD k d0 := rfl
      rw [e]
      have hx : big (l.getD k d0).1.2.length := hb _ (getD_mem d0 g)
      have hin : inB (k : Int) l.length := inB_of (by omega) (by omega)
      refine cond_t (by rw [decide_eq_true (show (k : Int) < (l.length : Int) by omega), decide_eq_true hi]; rfl) ⟨hin, EqualRuns_ok hx ?_⟩
      cases hc : eqr (l.getD k d0).1.1 (l.getD k d0).1.2 i a with
      | true =>
        rw [if_pos hc] at he
        refine cond_t rfl ⟨hin, ?_⟩
        cases hp : (l.getD k d0).2 with
        | true =>
          rw [hp] at he
          have q1 : fits (([] : List Int).length + a.length) := fits_of (by simp; omega)
          have q2 : fits ((([] : List Int) ++ a).length + ([i] : List Int).length) := fits_of (by simp; omega)
          have q3 := h1 he.symm
          exact cond_t rfl ⟨⟨q1, q2, q3⟩, ⟨q1, q2, q3⟩, q1, q2, q3⟩
        | false =>
          rw [hp] at he
          have q1 : fits (([] : List Int).length + b.length) := fits_of (by simp; omega)
          have q2 : fits ((([] : List Int) ++ b).length + ([i] : List Int).length) := fits_of (by simp; omega)
          have q3 := h2 he.symm
          exact cond_f rfl ⟨⟨q1, q2, q3⟩, ⟨q1, q2, q3⟩, q1, q2, q3⟩
      | false =>
        rw [if_neg (by rw [hc]; simp)] at he
        show L.ref8_Decide_h29_L1_R rc n l a b i a fu (i64 ((k : Int) + 1)) (K a b) K
        rw [i64_id (by omega) (by omega)]
        exact RDecide_loop hb hl hi ha hb' h1 h2 h3 fu (k + 1) (by omega) (by omega) he
    · rw [List.drop_eq_nil_of_le g] at he
      exact cond_f (by rw [decide_eq_false (show ¬ (k : Int) < (l.length : Int) by omega)]; rfl) (h3 he.symm)

theorem RDecide_R {l : List T} (hb : bigs l) (hl : l.length ≤ 16) {n : Int} (hn : n ≤ 8) {K : List Int → List Int → Prop} : ∀ (k : Nat) (a b : List Int), (a.length : Int) + b.length + k = n → K (dc l k (a.length + b.length) a b).1 (dc l k (a.length + b.length) a b).2 → L.ref8_Decide_h29_R (k + 1) n l a b K
  | 0, a, b, hi, hK => by
    show L.ref8_Decide_h29_B n l a b (L.ref8_Decide_h29_R 0) K
    unfold L.ref8_Decide_h29_B
    refine ⟨⟨1, ?_⟩⟩
    rw [i64_id (by omega) (by omega)]
    show L.ref8_Decide_h29_L1_b _ n l a b _ a 0 _ _ _
    refine cond_f ?_ hK
    rw [decide_eq_false (show ¬ ((a.length : Int) + b.length < n) by omega)]
    cases decide ((0 : Int) < (l.length : Int)) <;> rfl
  | k + 1, a, b, hi, hK => by
    show L.ref8_Decide_h29_B n l a b (L.ref8_Decide_h29_R (k + 1)) K
    unfold L.ref8_Decide_h29_B
    rw [i64_id (by omega) (by omega)]
    rw [dc] at hK
    refine ⟨⟨l.length + 1, RDecide_loop hb hl (by omega) (by omega) (by omega) (fun hf => ?_) (fun hf => ?_) (fun hf => ?_) _ 0 (by omega) (by omega) rfl⟩⟩
    · rw [hf] at hK
      refine RDecide_R hb hl hn k _ b (by simp; omega) ?_
      have e : (((a ++ [(a.length : Int) + b.length]).length : Nat) : Int) + b.length = a.length + b.length + 1 := by simp; omega
      rw [e]
      exact hK
    · rw [hf] at hK
      refine RDecide_R hb hl hn k a _ (by simp; omega) ?_
      have e : (a.length : Int) + (((b ++ [(a.length : Int) + b.length]).length : Nat) : Int) = a.length + b.length + 1 := by simp; omega
      rw [e]
      exact hK
    · rw [hf] at hK
      exact hK

theorem RDecide_ok {n : Int} {l : List T} (hb : bigs l) (hf : rf n l = (0, 0)) {K : List Int → List Int → Prop} (hK : K (dc l n.toNat 0 [] []).1 (dc l n.toNat 0 [] []).2) : L.ref8_Decide_h29 n l [] [] K := by
  obtain ⟨h1, h2, h3⟩ := rf_small hf
  exact ⟨⟨n.toNat + 1, RDecide_R hb h3 h2 n.toNat [] [] (by simp; omega) hK⟩⟩

end Sp
end Go.Proofs.Ytjlejiefkmimiaa

/-
  Speculation: decisions. Conditions: none.
-/
import Derived.Test.YtjlejiefkmimiaaSnB
set_option linter.unusedVariables false
namespace Go.Proofs.Ytjlejiefkmimiaa
open Eng
namespace Sp

/-- The result of a run. -/
def fnd : List T → Int → List Int → Option Bool
  | [], _, _ => none
  | x :: r, i, m => if eqr x.1.1 x.1.2 i m = true then some x.2 else fnd r i m

/-- What lands and what is rejected, from a state on. -/
def dc (l : List T) : Nat → Int → List Int → List Int → List Int × List Int
  | 0, _, a, b => (a, b)
  | k + 1, i, a, b => match fnd l i a with
    | none => (a, b)
    | some true => dc l k (i + 1) (a ++ [i]) b
    | some false => dc l k (i + 1) a (b ++ [i])

theorem rfl'_cases (n : Int) : ∀ (l : List T) (i : Int) (s : List T), rfl' n i s l = (0, 0) ∨ (rfl' n i s l).1 ≠ 0
  | [], _, _ => .inl rfl
  | x :: r, i, s => by
    unfold rfl'
    split
    · next h => exact .inr h
    · split
      · exact .inr (by show (19 : Int) ≠ 0; omega)
      · exact rfl'_cases n r _ _

theorem rf_cases (n : Int) (l : List T) : rf n l = (0, 0) ∨ (rf n l).1 ≠ 0 := by
  unfold rf
  split
  · exact .inr (by show (3 : Int) ≠ 0; omega)
  · split
    · exact .inr (by show (2 : Int) ≠ 0; omega)
    · exact rfl'_cases n l 0 []

theorem rf_small {n : Int} {l : List T} (h : rf n l = (0, 0)) : 0 ≤ n ∧ n ≤ 8 ∧ l.length ≤ 16 := by
  unfold rf at h
  split at h
  · have := congrArg Prod.fst h
    simp at this
  · next h1 =>
    split at h
    · have := congrArg Prod.fst h
      simp at this
    · omega

theorem IndexSame_loop {l : List T} (hb : bigs l) (hl : l.length ≤ 16) {c : Int} {m : List Int} {K : Int → Prop} : ∀ (fu k : Nat), k ≤ l.length → l.length - k < fu → (∀ j : Nat, j < l.length → fnd (l.drop k) c m = some (l.getD j d0).2 → K j) → (fnd (l.drop k) c m = none → K (-1)) →
    L.slices_IndexFunc_v31_L1_R l c m l.length fu k (K (-1)) K
  | 0, k, _, h, _, _ => by omega
  | fu + 1, k, hk, h, hT, hF => by
    show L.slices_IndexFunc_v31_L1_b l c m l.length k _ _ _
    unfold L.slices_IndexFunc_v31_L1_b
    rcases Nat.lt_or_ge k l.length with g | g
    · rw [drop_cons d0 g] at hT hF
      have e : l.getD (k : Int).toNat ((0, []), false) = l.getD k d0 := rfl
      rw [e]
      have hx : big (l.getD k d0).1.2.length := hb _ (getD_mem d0 g)
      refine cond_t (by simp; omega) ⟨inB_of (by omega) (by omega), ⟨same_ok hx ?_⟩⟩
      cases hc : eqr (l.getD k d0).1.1 (l.getD k d0).1.2 c m with
      | true =>
        exact hT k g (by rw [fnd, if_pos hc])
      | false =>
        show L.slices_IndexFunc_v31_L1_R l c m l.length fu (i64 ((k : Int) + 1)) (K (-1)) K
        rw [i64_id (by omega) (by omega)]
        refine IndexSame_loop hb hl fu (k + 1) (by omega) (by omega) (fun j hj hh => hT j hj ?_) (fun hh => hF ?_)
        · rw [fnd, if_neg (by rw [hc]; simp)]; exact hh
        · rw [fnd, if_neg (by rw [hc]; simp)]; exact hh
    · rw [List.drop_eq_nil_of_le g] at hF
      exact cond_f (by simp; omega) (hF rfl)

theorem IndexSame_ok {l : List T} (hb : bigs l) (hl : l.length ≤ 16) {c : Int} {m : List Int} {K : Int → Prop} (hT : ∀ j : Nat, j < l.length → fnd l c m = some (l.getD j d0).2 → K j) (hF : fnd l c m = none → K (-1)) : L.slices_IndexFunc_v31 l c m K :=
  ⟨⟨l.length + 1, IndexSame_loop (K := K) hb hl (l.length + 1) 0 (by omega) (by omega) (fun j hj h => hT j hj (by rwa [List.drop_zero] at h)) (fun h => hF (by rwa [List.drop_zero] at h))⟩⟩

theorem Decide_loop {l : List T} (hb : bigs l) (hl : l.length ≤ 16) {n : Int} (hn : n ≤ 8) {K : List Int → List Int → Int → Int → Prop} : ∀ (k : Nat) (i : Int) (a b : List Int), i + k = n → 0 ≤ i → a.length ≤ i → b.length ≤ i → K (dc l k i a b).1 (dc l k i a b).2 0 0 →
    L.speculate_Decide_L1_R l n (k + 1) i a b (fun landed rejected => K landed rejected 0 0) (fun landed rejected m m1 => K landed rejected m m1)
  | 0, i, a, b, hi, h0, ha, hb', hK => by
    show L.speculate_Decide_L1_b l n i a b _ _ _
    exact cond_f (by simp; omega) hK
  | k + 1, i, a, b, hi, h0, ha, hb', hK => by
    show L.speculate_Decide_L1_b l n i a b _ _ _
    unfold L.speculate_Decide_L1_b
    refine cond_t (by simp; omega) (IndexSame_ok hb hl (fun j hj hf => ?_) (fun hf => ?_))
    · rw [dc, hf] at hK
      refine cond_f (by simp) ⟨inB_of (by omega) (by omega), ?_⟩
      have e : l.getD (j : Int).toNat ((0, []), false) = l.getD j d0 := rfl
      rw [e]
      cases hp : (l.getD j d0).2 with
      | true =>
        rw [hp] at hK
        refine cond_t rfl ⟨fits_of (by simp; omega), ?_⟩
        show L.speculate_Decide_L1_R l n (k + 1) (i64 (i + 1)) (a ++ [i]) b _ _
        rw [i64_id (by omega) (by omega)]
        exact Decide_loop hb hl hn k (i + 1) (a ++ [i]) b (by omega) (by omega) (by simp; omega) (by omega) hK
      | false =>
        rw [hp] at hK
        refine cond_f rfl ⟨fits_of (by simp; omega), ?_⟩
        show L.speculate_Decide_L1_R l n (k + 1) (i64 (i + 1)) a (b ++ [i]) _ _
        rw [i64_id (by omega) (by omega)]
        exact Decide_loop hb hl hn k (i + 1) a (b ++ [i]) (by omega) (by omega) (by omega) (by simp; omega) hK
    · rw [dc, hf] at hK
      exact cond_t (by decide) hK

theorem Decide_ok {n : Int} {l : List T} (hb : bigs l) (hf : rf n l = (0, 0)) {K : List Int → List Int → Int → Int → Prop} (hK : K (dc l n.toNat 0 [] []).1 (dc l n.toNat 0 [] []).2 0 0) : L.speculate_Decide n l K := by
  obtain ⟨h1, h2, h3⟩ := rf_small hf
  constructor
  unfold L.speculate_Decide_B
  refine checkResults_ok hb ?_
  rw [hf]
  exact cond_f (by decide) ⟨⟨n.toNat + 1, Decide_loop hb h3 h2 n.toNat 0 [] [] (by omega) (by omega) (by simp) (by simp) hK⟩⟩

theorem Decide_bad {n : Int} {l : List T} (hb : bigs l) (hf : (rf n l).1 ≠ 0) {K : List Int → List Int → Int → Int → Prop} (hK : K [] [] (rf n l).1 (rf n l).2) : L.speculate_Decide n l K := by
  constructor
  unfold L.speculate_Decide_B
  refine checkResults_ok hb ?_
  exact cond_t (by simp [hf]) hK

end Sp
end Go.Proofs.Ytjlejiefkmimiaa

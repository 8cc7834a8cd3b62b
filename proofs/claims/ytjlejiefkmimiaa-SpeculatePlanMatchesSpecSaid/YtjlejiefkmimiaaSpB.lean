/-
  Speculation: the fault of results. Conditions: none.
-/
import Derived.Test.YtjlejiefkmimiaaSpA
set_option linter.unusedVariables false
namespace Go.Proofs.Ytjlejiefkmimiaa
open Eng
namespace Sp

/-- A result of a run. -/
abbrev T := (Int × List Int) × Bool
abbrev d0 : T := ((0, []), false)

/-- Two results of one run that differ. -/
def conf (x y : T) : Bool := eqr x.1.1 x.1.2 y.1.1 y.1.2 && !(x.2 == y.2)

/-- The first fault of results behind others. -/
def rfl' (n : Int) : Int → List T → List T → Int × Int
  | _, _, [] => (0, 0)
  | i, s, x :: r => if rcode n x.1.1 x.1.2 ≠ 0 then (rcode n x.1.1 x.1.2, i) else if s.any (conf x) = true then (19, i) else rfl' n (i + 1) (s ++ [x]) r

def rf (n : Int) (l : List T) : Int × Int := if n < 0 ∨ 8 < n then (3, -2) else if 16 < l.length then (2, -1) else rfl' n 0 [] l

def bigs (l : List T) : Prop := ∀ x, x ∈ l → big x.1.2.length

theorem Fault_ok {c i : Int} {K : Int → Int → Prop} (hK : K c i) : L.ref8_Fault c i K := ⟨hK⟩

theorem conf_ok {x y : T} (hx : big x.1.2.length) {K : Bool → Prop} (hK : K (conf x y)) : L.speculate_checkResults_1_v22 y.1.1 y.1.2 y.2 x.1.1 x.1.2 x.2 K := by
  constructor
  unfold L.speculate_checkResults_1_v22_B
  refine same_ok hx ?_
  unfold conf at hK
  cases h : eqr x.1.1 x.1.2 y.1.1 y.1.2 with
  | true => rw [h, Bool.true_and] at hK; exact hK
  | false => rw [h] at hK; exact hK

theorem IndexConf_loop {s : List T} {x : T} (hx : big x.1.2.length) (hs : s.length ≤ 16) {K : Int → Prop} : ∀ (fu k : Nat), k ≤ s.length → s.length - k < fu → ((s.drop k).any (conf x) = true → ∀ j : Nat, K j) → ((s.drop k).any (conf x) = false → K (-1)) →
    L.slices_IndexFunc_v21_L1_R s x.1.1 x.1.2 x.2 s.length fu k (K (-1)) K
  | 0, k, _, h, _, _ => by omega
  | fu + 1, k, hk, h, hT, hF => by
    show L.slices_IndexFunc_v21_L1_b s x.1.1 x.1.2 x.2 s.length k _ _ _
    unfold L.slices_IndexFunc_v21_L1_b
    rcases Nat.lt_or_ge k s.length with g | g
    · rw [drop_cons d0 g, List.any_cons] at hT hF
      have e : s.getD (k : Int).toNat ((0, []), false) = s.getD k d0 := rfl
      rw [e]
      refine cond_t (by simp; omega) ⟨inB_of (by omega) (by omega), conf_ok hx ?_⟩
      cases hc : conf x (s.getD k d0) with
      | true =>
        rw [hc] at hT
        exact hT rfl k
      | false =>
        rw [hc, Bool.false_or] at hT hF
        show L.slices_IndexFunc_v21_L1_R s x.1.1 x.1.2 x.2 s.length fu (i64 ((k : Int) + 1)) (K (-1)) K
        rw [i64_id (by omega) (by omega)]
        exact IndexConf_loop hx hs fu (k + 1) (by omega) (by omega) hT hF
    · rw [List.drop_eq_nil_of_le g] at hF
      exact cond_f (by simp; omega) (hF rfl)

theorem ContainsConf_ok {s : List T} {x : T} (hx : big x.1.2.length) (hs : s.length ≤ 16) {K : Bool → Prop} (hK : K (s.any (conf x))) : L.slices_ContainsFunc_v20 s x.1.1 x.1.2 x.2 K := by
  refine ⟨⟨⟨s.length + 1, IndexConf_loop (K := fun r => K (decide (r ≥ 0))) hx hs _ 0 (by omega) (by omega) (fun h j => ?_) (fun h => ?_)⟩⟩⟩
  · rw [List.drop_zero] at h
    rw [h] at hK
    rw [decide_eq_true (by omega)]
    exact hK
  · rw [List.drop_zero] at h
    rw [h] at hK
    exact hK

theorem checkResults_loop {n : Int} {l : List T} (hb : bigs l) (hl : l.length ≤ 16) {K : Int → Int → Prop} : ∀ (fu i : Nat), i ≤ l.length → l.length - i < fu → K (rfl' n i (l.take i) (l.drop i)).1 (rfl' n i (l.take i) (l.drop i)).2 →
    L.speculate_checkResults_L1_R n l l l.length fu i (K 0 0) K
  | 0, i, _, h, _ => by omega
  | fu + 1, i, hi, h, hK => by
    show L.speculate_checkResults_L1_b n l l l.length i _ _ _
    unfold L.speculate_checkResults_L1_b
    rcases Nat.lt_or_ge i l.length with g | g
    · rw [drop_cons d0 g] at hK
      have e : l.getD (i : Int).toNat ((0, []), false) = l.getD i d0 := rfl
      rw [e]
      have hx : big (l.getD i d0).1.2.length := hb _ (getD_mem d0 g)
      have et := take_snoc d0 g
      obtain ⟨x, hxe⟩ : ∃ x, l.getD i d0 = x := ⟨_, rfl⟩
      rw [hxe] at hK hx et ⊢
      rw [rfl'] at hK
      refine cond_t (by simp; omega) ⟨inB_of (by omega) (by omega), checkRun_ok hx ?_⟩
      by_cases h1 : rcode n x.1.1 x.1.2 = 0
      · rw [if_neg (by simpa using h1)] at hK
        rw [h1]
        refine cond_f (by simp) ⟨by omega, ContainsConf_ok hx (by rw [List.length_take]; omega) ?_⟩
        show bif (l.take i).any (conf x) then _ else _
        cases hc : (l.take i).any (conf x) with
        | true =>
          rw [hc, if_pos rfl] at hK
          exact hK
        | false =>
          rw [hc, if_neg (by simp)] at hK
          show L.speculate_checkResults_L1_R n l l l.length fu (i64 ((i : Int) + 1)) (K 0 0) K
          rw [i64_id (by omega) (by omega)]
          refine checkResults_loop hb hl fu (i + 1) (by omega) (by omega) ?_
          rw [et]
          exact hK
      · rw [if_pos h1] at hK
        exact cond_t (by simpa using h1) hK
    · rw [List.drop_eq_nil_of_le g, rfl'] at hK
      exact cond_f (by simp; omega) hK

theorem checkResults_ok {n : Int} {l : List T} (hb : bigs l) {K : Int → Int → Prop} (hK : K (rf n l).1 (rf n l).2) : L.speculate_checkResults n l K := by
  constructor
  unfold L.speculate_checkResults_B
  unfold rf at hK
  by_cases h : n < 0 ∨ 8 < n
  · rw [if_pos h] at hK
    refine cond_t ?_ hK
    rcases h with h | h <;> simp [h]
  · rw [if_neg h] at hK
    refine cond_f (by simp; omega) ?_
    by_cases h2 : 16 < l.length
    · rw [if_pos h2] at hK
      exact cond_t (by simp; omega) hK
    · rw [if_neg h2] at hK
      exact cond_f (by simp; omega) ⟨⟨l.length + 1, checkResults_loop hb (by omega) _ 0 (by omega) (by omega) hK⟩⟩

theorem ResultsFault_inner {l : List T} {i : Nat} (hb : bigs l) (hl : l.length ≤ 16) (hi : i < l.length) {X : Prop} {K : Int → Int → Prop} : ∀ (fu k : Nat), k ≤ i → i - k < fu → (((l.take i).drop k).any (conf (l.getD i d0)) = true → K 19 i) → (((l.take i).drop k).any (conf (l.getD i d0)) = false → X) →
    L.ref8_ResultsFault_L2_R l i fu k X K
  | 0, k, _, h, _, _ => by omega
  | fu + 1, k, hk, h, hT, hF => by
    show L.ref8_ResultsFault_L2_b l i k _ _ _
    unfold L.ref8_ResultsFault_L2_b
    rcases Nat.lt_or_ge k i with g | g
    · have hlt : k < (l.take i).length := by rw [List.length_take]; omega
      have eg : (l.take i).getD k d0 = l.getD k d0 := by
        rw [List.getD_eq_getElem?_getD, List.getElem?_take, if_pos g, ← List.getD_eq_getElem?_getD]
      rw [drop_cons d0 hlt, List.any_cons, eg] at hT hF
      have e1 : l.getD (k : Int).toNat ((0, []), false) = l.getD k d0 := rfl
      have e2 : l.getD (i : Int).toNat ((0, []), false) = l.getD i d0 := rfl
      rw [e1, e2]
      have hin : inB (i : Int) l.length := inB_of (by omega) (by omega)
      have hik : inB (k : Int) l.length := inB_of (by omega) (by omega)
      have hx : big (l.getD i d0).1.2.length := hb _ (getD_mem d0 hi)
      refine cond_t (by simp; omega) ⟨hin, hik, EqualRuns_ok hx ⟨fun _ => hin, fun _ => hik, ?_⟩⟩
      have ec : (bif eqr (l.getD i d0).1.1 (l.getD i d0).1.2 (l.getD k d0).1.1 (l.getD k d0).1.2 then !((l.getD i d0).2 == (l.getD k d0).2) else false) = conf (l.getD i d0) (l.getD k d0) := by
        unfold conf
        cases eqr (l.getD i d0).1.1 (l.getD i d0).1.2 (l.getD k d0).1.1 (l.getD k d0).1.2 <;> simp
      rw [ec]
      cases hc : conf (l.getD i d0) (l.getD k d0) with
      | true =>
        rw [hc] at hT
        exact cond_t rfl (Fault_ok (hT rfl))
      | false =>
        rw [hc, Bool.false_or] at hT hF
        show L.ref8_ResultsFault_L2_R l i fu (i64 ((k : Int) + 1)) X K
        rw [i64_id (by omega) (by omega)]
        exact ResultsFault_inner hb hl hi fu (k + 1) (by omega) (by omega) hT hF
    · rw [List.drop_eq_nil_of_le (by rw [List.length_take]; omega)] at hF
      exact cond_f (by simp; omega) (hF rfl)

theorem ResultsFault_loop {n : Int} {l : List T} (hb : bigs l) (hl : l.length ≤ 16) {X : Prop} {K : Int → Int → Prop} (hX : K 0 0 → X) : ∀ (fu i : Nat), i ≤ l.length → l.length - i < fu → K (rfl' n i (l.take i) (l.drop i)).1 (rfl' n i (l.take i) (l.drop i)).2 →
    L.ref8_ResultsFault_L1_R n l fu i X K
  | 0, i, _, h, _ => by omega
  | fu + 1, i, hi, h, hK => by
    show L.ref8_ResultsFault_L1_b n l i _ _ _
    unfold L.ref8_ResultsFault_L1_b
    rcases Nat.lt_or_ge i l.length with g | g
    · rw [drop_cons d0 g] at hK
      have e : l.getD (i : Int).toNat ((0, []), false) = l.getD i d0 := rfl
      rw [e]
      have hx : big (l.getD i d0).1.2.length := hb _ (getD_mem d0 g)
      have et := take_snoc d0 g
      have hin : inB (i : Int) l.length := inB_of (by omega) (by omega)
      rw [rfl'] at hK
      refine cond_t (by simp; omega) ⟨hin, RunCode_ok hx ?_⟩
      by_cases h1 : rcode n (l.getD i d0).1.1 (l.getD i d0).1.2 = 0
      · rw [if_neg (by simpa using h1)] at hK
        rw [h1]
        refine cond_f (by simp) ⟨⟨i + 1, ResultsFault_inner hb hl g _ 0 (by omega) (by omega) (fun hc => ?_) (fun hc => ?_)⟩⟩
        · rw [List.drop_zero] at hc
          rw [hc, if_pos rfl] at hK
          exact hK
        · rw [List.drop_zero] at hc
          rw [hc, if_neg (by simp)] at hK
          show L.ref8_ResultsFault_L1_R n l fu (i64 ((i : Int) + 1)) X K
          rw [i64_id (by omega) (by omega)]
          refine ResultsFault_loop hb hl hX fu (i + 1) (by omega) (by omega) ?_
          rw [et]
          exact hK
      · rw [if_pos h1] at hK
        exact cond_t (by simpa using h1) ⟨hin, RunCode_ok hx (Fault_ok hK)⟩
    · rw [List.drop_eq_nil_of_le g, rfl'] at hK
      exact cond_f (by simp; omega) (hX hK)

theorem ResultsFault_ok {n : Int} {l : List T} (hb : bigs l) {K : Int → Int → Prop} (hK : K (rf n l).1 (rf n l).2) : L.ref8_ResultsFault n l K := by
  constructor
  unfold L.ref8_ResultsFault_B
  unfold rf at hK
  by_cases h : n < 0 ∨ 8 < n
  · rw [if_pos h] at hK
    refine cond_t ?_ (Fault_ok hK)
    rcases h with h | h <;> simp [h]
  · rw [if_neg h] at hK
    refine cond_f (by simp; omega) ?_
    by_cases h2 : 16 < l.length
    · rw [if_pos h2] at hK
      exact cond_t (by simp; omega) (Fault_ok hK)
    · rw [if_neg h2] at hK
      exact cond_f (by simp; omega) ⟨⟨l.length + 1, ResultsFault_loop hb (by omega) Fault_ok _ 0 (by omega) (by omega) hK⟩⟩

end Sp
end Go.Proofs.Ytjlejiefkmimiaa

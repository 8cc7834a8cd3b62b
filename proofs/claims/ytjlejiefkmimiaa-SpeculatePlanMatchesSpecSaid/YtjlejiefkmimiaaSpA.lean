/-
  Speculation: comparisons and the codes of runs. Conditions: none.
-/
import Derived.Test.YtjlejiefkmimiaaLift3
import Derived.Test.YtjlejiefkmimiaaEngX
import Derived.Test.YtjlejiefkmimiaaEngV
set_option linter.unusedVariables false
namespace Go.Proofs.Ytjlejiefkmimiaa
open Eng
namespace Sp

theorem drop_cons {α : Type} {l : List α} {i : Nat} (d : α) (h : i < l.length) : l.drop i = l.getD i d :: l.drop (i + 1) := by
  rw [List.drop_eq_getElem_cons h, List.getD_eq_getElem?_getD, List.getElem?_eq_getElem h]; rfl
theorem getD_mem {α : Type} {l : List α} {i : Nat} (d : α) (h : i < l.length) : l.getD i d ∈ l := by
  rw [List.getD_eq_getElem?_getD, List.getElem?_eq_getElem h]; exact List.getElem_mem h
theorem take_snoc {α : Type} {l : List α} {i : Nat} (d : α) (h : i < l.length) : l.take (i + 1) = l.take i ++ [l.getD i d] := by
  rw [List.take_succ_eq_append_getElem h, List.getD_eq_getElem?_getD, List.getElem?_eq_getElem h]; rfl
theorem fits_of {n : Nat} (h : n ≤ 1000) : fits n := by unfold fits; omega
theorem bool_iff {a b : Bool} (h : a = true ↔ b = true) : a = b := by cases a <;> cases b <;> simp_all

def big (n : Nat) : Prop := n ≤ 9223372036854775807
theorem big_of {n : Nat} (h : n ≤ maxLen) : big n := by unfold maxLen at h; unfold big; omega

theorem EqualInts_loop {a b : List Int} (hl : big a.length) (he : a.length = b.length) {K : Bool → Prop} : ∀ (fu i : Nat), i ≤ a.length → a.length - i < fu → K (decide (a.drop i = b.drop i)) → L.ref8_EqualInts_L1_R a b fu i (K true) K
  | 0, i, _, h, _ => by omega
  | fu + 1, i, hi, h, hK => by
    show L.ref8_EqualInts_L1_b a b i _ _ _
    unfold L.ref8_EqualInts_L1_b
    unfold big at hl
    rcases Nat.lt_or_ge i a.length with g | g
    · rw [drop_cons (0 : Int) g, drop_cons (0 : Int) (l := b) (by omega)] at hK
      refine cond_t (by simp; omega) ⟨inB_of (by omega) (by omega), inB_of (by omega) (by omega), ?_⟩
      have e : ∀ l : List Int, l.getD (i : Int).toNat 0 = l.getD i 0 := fun _ => rfl
      rw [e, e]
      by_cases h1 : a.getD i 0 = b.getD i 0
      · refine cond_f (by rw [h1]; simp) ?_
        rw [i64_id (by omega) (by omega)]
        refine EqualInts_loop hl he fu (i + 1) (by omega) (by omega) ?_
        rw [h1] at hK
        simpa using hK
      · refine cond_t (by simpa using h1) ?_
        have : decide (a.getD i 0 :: a.drop (i + 1) = b.getD i 0 :: b.drop (i + 1)) = false := by simp; intro h2; exact absurd h2 h1
        rw [this] at hK; exact hK
    · rw [List.drop_eq_nil_of_le g, List.drop_eq_nil_of_le (by omega)] at hK
      exact cond_f (by simp; omega) (by simpa using hK)

theorem EqualInts_ok {a b : List Int} (hl : big a.length) {K : Bool → Prop} (hK : K (decide (a = b))) : L.ref8_EqualInts a b K := by
  constructor
  unfold L.ref8_EqualInts_B
  by_cases h : a.length = b.length
  · refine cond_f (by simp; omega) ⟨⟨a.length + 1, EqualInts_loop hl h _ 0 (by omega) (by omega) ?_⟩⟩
    simpa using hK
  · refine cond_t (by simp; omega) ?_
    have : decide (a = b) = false := by simp; intro e; exact h (by rw [e])
    rw [this] at hK; exact hK

theorem Equal_loop {a b : List Int} (hl : big a.length) (he : a.length = b.length) {K : Bool → Prop} : ∀ (fu i : Nat), i ≤ a.length → a.length - i < fu → K (decide (a.drop i = b.drop i)) → L.slices_Equal_L1_R a b a.length fu i (K true) K
  | 0, i, _, h, _ => by omega
  | fu + 1, i, hi, h, hK => by
    show L.slices_Equal_L1_b a b a.length i _ _ _
    unfold L.slices_Equal_L1_b
    unfold big at hl
    rcases Nat.lt_or_ge i a.length with g | g
    · rw [drop_cons (0 : Int) g, drop_cons (0 : Int) (l := b) (by omega)] at hK
      refine cond_t (by simp; omega) ⟨inB_of (by omega) (by omega), inB_of (by omega) (by omega), ?_⟩
      have e : ∀ l : List Int, l.getD (i : Int).toNat 0 = l.getD i 0 := fun _ => rfl
      rw [e, e]
      by_cases h1 : a.getD i 0 = b.getD i 0
      · refine cond_f (by rw [h1]; simp) ?_
        rw [i64_id (by omega) (by omega)]
        refine Equal_loop hl he fu (i + 1) (by omega) (by omega) ?_
        rw [h1] at hK
        simpa using hK
      · refine cond_t (by simpa using h1) ?_
        have : decide (a.getD i 0 :: a.drop (i + 1) = b.getD i 0 :: b.drop (i + 1)) = false := by simp; intro h2; exact absurd h2 h1
        rw [this] at hK; exact hK
    · rw [List.drop_eq_nil_of_le g, List.drop_eq_nil_of_le (by omega)] at hK
      exact cond_f (by simp; omega) (by simpa using hK)

theorem Equal_ok {a b : List Int} (hl : big a.length) {K : Bool → Prop} (hK : K (decide (a = b))) : L.slices_Equal a b K := by
  constructor
  unfold L.slices_Equal_B
  by_cases h : a.length = b.length
  · refine cond_f (by simp; omega) ⟨⟨a.length + 1, Equal_loop hl h _ 0 (by omega) (by omega) ?_⟩⟩
    simpa using hK
  · refine cond_t (by simp; omega) ?_
    have : decide (a = b) = false := by simp; intro e; exact h (by rw [e])
    rw [this] at hK; exact hK

/-- Equal runs. -/
def eqr (a : Int) (l : List Int) (b : Int) (m : List Int) : Bool := a == b && decide (l = m)

theorem same_ok {a b : Int} {l m : List Int} (hl : big l.length) {K : Bool → Prop} (hK : K (eqr a l b m)) : L.speculate_same a l b m K := by
  constructor
  unfold L.speculate_same_B
  unfold eqr at hK
  by_cases h : a = b
  · refine cond_t (by simpa using h) (Equal_ok hl ?_)
    simpa [h] using hK
  · refine cond_f (by simpa using h) ?_
    have e : (a == b) = false := by simpa using h
    rw [e] at hK
    exact hK

theorem EqualRuns_ok {a b : Int} {l m : List Int} (hl : big l.length) {K : Bool → Prop} (hK : K (eqr a l b m)) : L.ref8_EqualRuns a l b m K := by
  constructor
  unfold L.ref8_EqualRuns_B
  unfold eqr at hK
  by_cases h : a = b
  · refine cond_t (by simpa using h) (EqualInts_ok hl ?_)
    simpa [h] using hK
  · refine cond_f (by simpa using h) ?_
    have e : (a == b) = false := by simpa using h
    rw [e] at hK
    exact hK

/-- The code of the changes of a run. -/
def rcl (n : Int) : Int → List Int → Int
  | _, [] => 0
  | p, x :: l => if x < 0 ∨ n ≤ x then 3 else if x ≤ p then 5 else rcl n x l

def rcode (n last : Int) (w : List Int) : Int := if last < 0 ∨ n ≤ last then 3 else rcl last (-1) w

theorem checkRun_loop {w : List Int} {n : Int} (hl : big w.length) {K : Int → Prop} : ∀ (fu i : Nat), i ≤ w.length → w.length - i < fu → K (rcl n (if i = 0 then -1 else w.getD (i - 1) 0) (w.drop i)) → L.speculate_checkRun_L1_R w w.length n w fu i (K 0) K
  | 0, i, _, h, _ => by omega
  | fu + 1, i, hi, h, hK => by
    show L.speculate_checkRun_L1_b w w.length n w i _ _ _
    unfold L.speculate_checkRun_L1_b
    unfold big at hl
    rcases Nat.lt_or_ge i w.length with g | g
    · rw [drop_cons (0 : Int) g, rcl] at hK
      refine cond_t (by simp; omega) ⟨inB_of (by omega) (by omega), ?_⟩
      have e : w.getD (i : Int).toNat 0 = w.getD i 0 := rfl
      rw [e]
      obtain ⟨x, hx⟩ : ∃ x, w.getD i 0 = x := ⟨_, rfl⟩
      rw [hx] at hK ⊢
      by_cases h1 : x < 0 ∨ n ≤ x
      · rw [if_pos h1] at hK
        refine cond_t ?_ hK
        rcases h1 with h1 | h1 <;> simp [h1]
      · rw [if_neg h1] at hK
        refine cond_f (by simp; omega) ⟨fun hh => ?_, ?_⟩
        · rw [i64_id (by simp at hh; omega) (by omega)]
          simp at hh
          exact inB_of (by omega) (by omega)
        · rcases Nat.eq_zero_or_pos i with rfl | hp
          · rw [if_pos rfl, if_neg (by omega)] at hK
            refine cond_f (by simp) ?_
            rw [i64_id (by omega) (by omega)]
            refine checkRun_loop hl fu 1 (by omega) (by omega) ?_
            rw [if_neg (by omega)]
            show K (rcl n (w.getD 0 0) _)
            rw [hx]
            exact hK
          · rw [if_neg (show ¬ i = 0 by omega)] at hK
            rw [i64_id (n := (i : Int) - 1) (by omega) (by omega)]
            have e2 : w.getD ((i : Int) - 1).toNat 0 = w.getD (i - 1) 0 := by congr 1; omega
            rw [e2]
            by_cases h2 : x ≤ w.getD (i - 1) 0
            · rw [if_pos h2] at hK
              exact cond_t (by rw [decide_eq_true (show (i : Int) > 0 by omega), decide_eq_true h2]; rfl) hK
            · rw [if_neg h2] at hK
              refine cond_f (by rw [decide_eq_true (show (i : Int) > 0 by omega), decide_eq_false h2]; rfl) ?_
              rw [i64_id (by omega) (by omega)]
              refine checkRun_loop hl fu (i + 1) (by omega) (by omega) ?_
              rw [if_neg (by omega), Nat.add_sub_cancel, hx]
              exact hK
    · rw [List.drop_eq_nil_of_le g, rcl] at hK
      exact cond_f (by simp; omega) hK

theorem checkRun_ok {n last : Int} {w : List Int} (hl : big w.length) {K : Int → Prop} (hK : K (rcode n last w)) : L.speculate_checkRun n last w K := by
  constructor
  unfold L.speculate_checkRun_B
  unfold rcode at hK
  by_cases h : last < 0 ∨ n ≤ last
  · rw [if_pos h] at hK
    refine cond_t ?_ hK
    rcases h with h | h <;> simp [h]
  · rw [if_neg h] at hK
    exact cond_f (by simp; omega) ⟨⟨w.length + 1, checkRun_loop hl _ 0 (by omega) (by omega) hK⟩⟩

theorem RunCode_loop {w : List Int} {n : Int} (hl : big w.length) {K : Int → Prop} : ∀ (fu i : Nat) (p : Int), i ≤ w.length → w.length - i < fu → K (rcl n p (w.drop i)) → L.ref8_RunCode_L1_R n w fu p i (K 0) K
  | 0, i, _, _, h, _ => by omega
  | fu + 1, i, p, hi, h, hK => by
    show L.ref8_RunCode_L1_b n w p i _ _ _
    unfold L.ref8_RunCode_L1_b
    unfold big at hl
    rcases Nat.lt_or_ge i w.length with g | g
    · rw [drop_cons (0 : Int) g, rcl] at hK
      have hin : inB (i : Int) w.length := inB_of (by omega) (by omega)
      refine cond_t (by simp; omega) ⟨hin, fun _ => hin, ?_⟩
      have e : w.getD (i : Int).toNat 0 = w.getD i 0 := rfl
      rw [e]
      obtain ⟨x, hx⟩ : ∃ x, w.getD i 0 = x := ⟨_, rfl⟩
      rw [hx] at hK ⊢
      by_cases h1 : x < 0 ∨ n ≤ x
      · rw [if_pos h1] at hK
        refine cond_t ?_ hK
        rcases h1 with h1 | h1 <;> simp [h1]
      · rw [if_neg h1] at hK
        refine cond_f (by simp; omega) ⟨hin, ?_⟩
        by_cases h2 : x ≤ p
        · rw [if_pos h2] at hK
          exact cond_t (by simpa using h2) hK
        · rw [if_neg h2] at hK
          refine cond_f (by simpa using h2) ⟨hin, ?_⟩
          rw [i64_id (by omega) (by omega)]
          exact RunCode_loop hl fu (i + 1) x (by omega) (by omega) hK
    · rw [List.drop_eq_nil_of_le g, rcl] at hK
      exact cond_f (by simp; omega) hK

theorem RunCode_ok {n last : Int} {w : List Int} (hl : big w.length) {K : Int → Prop} (hK : K (rcode n last w)) : L.ref8_RunCode n last w K := by
  constructor
  unfold L.ref8_RunCode_B
  unfold rcode at hK
  by_cases h : last < 0 ∨ n ≤ last
  · rw [if_pos h] at hK
    refine cond_t ?_ hK
    rcases h with h | h <;> simp [h]
  · rw [if_neg h] at hK
    exact cond_f (by simp; omega) ⟨⟨w.length + 1, RunCode_loop hl _ 0 (-1) (by omega) (by omega) hK⟩⟩

end Sp
end Go.Proofs.Ytjlejiefkmimiaa

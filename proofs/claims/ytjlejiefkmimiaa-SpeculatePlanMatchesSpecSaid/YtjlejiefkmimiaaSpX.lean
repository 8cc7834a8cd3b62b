/-
  Speculation: chances, and the example. Conditions: none.
-/
import Derived.Test.YtjlejiefkmimiaaSpE
set_option linter.unusedVariables false
namespace Go.Proofs.Ytjlejiefkmimiaa
open Eng
namespace Sp

theorem Index_loop {s : List Int} {v : Int} (hs : s.length ≤ 1000) {K : Int → Prop} : ∀ (fu k : Nat), k ≤ s.length → s.length - k < fu → (v ∈ s.drop k → ∀ j : Nat, K j) → (¬ v ∈ s.drop k → K (-1)) → L.slices_Index_L1_R s v s.length fu k (K (-1)) K
  | 0, k, _, h, _, _ => by omega
  | fu + 1, k, hk, h, hT, hF => by
    show L.slices_Index_L1_b s v s.length k _ _ _
    unfold L.slices_Index_L1_b
    rcases Nat.lt_or_ge k s.length with g | g
    · have e : s.getD (k : Int).toNat 0 = s.getD k 0 := rfl
      rw [drop_cons 0 g, List.mem_cons] at hT hF
      rw [e]
      refine cond_t (by simp; omega) ⟨inB_of (by omega) (by omega), ?_⟩
      by_cases hx : v = s.getD k 0
      · exact cond_t (by simpa using hx) (hT (.inl hx) k)
      · refine cond_f (by simpa using hx) ?_
        show L.slices_Index_L1_R s v s.length fu (i64 ((k : Int) + 1)) (K (-1)) K
        rw [i64_id (by omega) (by omega)]
        exact Index_loop hs fu (k + 1) (by omega) (by omega) (fun h => hT (.inr h)) (fun h => hF (fun h2 => h2.elim hx h))
    · rw [List.drop_eq_nil_of_le g] at hF
      exact cond_f (by simp; omega) (hF (by simp))

theorem Contains_ok {s : List Int} {v : Int} (hs : s.length ≤ 1000) {K : Bool → Prop} (hK : K (decide (v ∈ s))) : L.slices_Contains s v K := by
  refine ⟨⟨⟨s.length + 1, Index_loop (K := fun r => K (decide (r ≥ 0))) hs _ 0 (by omega) (by omega) (fun h j => ?_) (fun h => ?_)⟩⟩⟩
  · rw [List.drop_zero] at h
    rw [decide_eq_true h] at hK
    rw [decide_eq_true (by omega)]
    exact hK
  · rw [List.drop_zero] at h
    rw [decide_eq_false h] at hK
    exact hK

/-- The chance of a run, as the program computes it. -/
def chs (last : Int) (w : List Int) : Nat → List Int → Int → Int
  | _, [], o => o
  | i, x :: r, o => chs last w (i + 1) r (if last ≤ i then i64 (o * 100) else if (i : Int) ∈ w then i64 (o * x) else i64 (o * i64 (100 - x)))

theorem chance_loop {l w : List Int} {last : Int} (hl : l.length ≤ 1000) (hw : w.length ≤ 1000) {K : Int → Prop} : ∀ (fu i : Nat) (o : Int), i ≤ l.length → l.length - i < fu → K (chs last w i (l.drop i) o) → L.speculate_chance_L1_R l l.length last w fu o i K
  | 0, i, _, _, h, _ => by omega
  | fu + 1, i, o, hi, h, hK => by
    show L.speculate_chance_L1_b l l.length last w o i _ _
    unfold L.speculate_chance_L1_b
    rcases Nat.lt_or_ge i l.length with g | g
    · have e : l.getD (i : Int).toNat 0 = l.getD i 0 := rfl
      rw [drop_cons 0 g, chs] at hK
      rw [e]
      have ei : i64 ((i : Int) + 1) = ((i + 1 : Nat) : Int) := i64_id (by omega) (by omega)
      refine cond_t (by simp; omega) ⟨inB_of (by omega) (by omega), ?_⟩
      by_cases h1 : last ≤ i
      · rw [if_pos h1] at hK
        refine cond_t (decide_eq_true h1) ?_
        show L.speculate_chance_L1_R l l.length last w fu _ (i64 ((i : Int) + 1)) K
        rw [ei]
        exact chance_loop hl hw fu (i + 1) _ (by omega) (by omega) hK
      · rw [if_neg h1] at hK
        refine cond_f (decide_eq_false h1) (Contains_ok hw ?_)
        by_cases h2 : (i : Int) ∈ w
        · rw [if_pos h2] at hK
          refine cond_t (decide_eq_true h2) ?_
          show L.speculate_chance_L1_R l l.length last w fu _ (i64 ((i : Int) + 1)) K
          rw [ei]
          exact chance_loop hl hw fu (i + 1) _ (by omega) (by omega) hK
        · rw [if_neg h2] at hK
          refine cond_f (decide_eq_false h2) ?_
          show L.speculate_chance_L1_R l l.length last w fu _ (i64 ((i : Int) + 1)) K
          rw [ei]
          exact chance_loop hl hw fu (i + 1) _ (by omega) (by omega) hK
    · rw [List.drop_eq_nil_of_le g, chs] at hK
      exact cond_f (by simp; omega) hK

theorem chance_ok {l w : List Int} {last : Int} (hl : l.length ≤ 1000) (hw : w.length ≤ 1000) {K : Int → Prop} (hK : K (chs last w 0 l 1)) : L.speculate_chance l last w K :=
  ⟨⟨l.length + 1, chance_loop hl hw _ 0 1 (by omega) (by omega) hK⟩⟩

/-- The first fault of percentages. -/
def pfl : Int → List Int → Int × Int
  | _, [] => (0, 0)
  | i, x :: l => if x < 0 ∨ 100 < x then (3, i) else pfl (i + 1) l

def pf (l : List Int) : Int × Int := if 8 < l.length then (2, -1) else pfl 0 l

theorem checkPercents_loop {l : List Int} (hl : l.length ≤ 8) {K : Int → Int → Prop} : ∀ (fu i : Nat), i ≤ l.length → l.length - i < fu → K (pfl i (l.drop i)).1 (pfl i (l.drop i)).2 → L.speculate_checkPercents_L1_R l l.length fu i (K 0 0) K
  | 0, i, _, h, _ => by omega
  | fu + 1, i, hi, h, hK => by
    show L.speculate_checkPercents_L1_b l l.length i _ _ _
    unfold L.speculate_checkPercents_L1_b
    rcases Nat.lt_or_ge i l.length with g | g
    · have e : l.getD (i : Int).toNat 0 = l.getD i 0 := rfl
      rw [drop_cons 0 g, pfl] at hK
      rw [e]
      refine cond_t (by simp; omega) ⟨inB_of (by omega) (by omega), ?_⟩
      by_cases h1 : l.getD i 0 < 0 ∨ 100 < l.getD i 0
      · rw [if_pos h1] at hK
        refine cond_t ?_ hK
        rcases h1 with h1 | h1
        · rw [decide_eq_true h1]; rfl
        · rw [decide_eq_true (p := l.getD i 0 > 100) h1]; cases decide (l.getD i 0 < 0) <;> rfl
      · rw [if_neg h1] at hK
        refine cond_f ?_ ?_
        · rw [decide_eq_false (show ¬ l.getD i 0 < 0 by omega), decide_eq_false (show ¬ l.getD i 0 > 100 by omega)]; rfl
        · show L.speculate_checkPercents_L1_R l l.length fu (i64 ((i : Int) + 1)) (K 0 0) K
          rw [i64_id (by omega) (by omega)]
          exact checkPercents_loop hl fu (i + 1) (by omega) (by omega) hK
    · rw [List.drop_eq_nil_of_le g, pfl] at hK
      exact cond_f (by simp; omega) hK

theorem checkPercents_ok {l : List Int} {K : Int → Int → Prop} (hK : K (pf l).1 (pf l).2) : L.speculate_checkPercents l K := by
  constructor
  unfold L.speculate_checkPercents_B
  unfold pf at hK
  by_cases h : 8 < l.length
  · rw [if_pos h] at hK
    exact cond_t (by simp; omega) hK
  · rw [if_neg h] at hK
    exact cond_f (by simp; omega) ⟨⟨l.length + 1, checkPercents_loop (by omega) _ 0 (by omega) (by omega) hK⟩⟩

/-- The numbers of the bits of a set. -/
def mbs (set : Int) : Nat → Int → List Int → List Int
  | 0, _, o => o
  | k + 1, i, o => mbs set k (i + 1) (if (i64 ((BitVec.ofInt 64 (set.fdiv (2 ^ (min i.toNat 64))) &&& BitVec.ofInt 64 1).toNat) == 1) = true then o ++ [i] else o)

theorem members_loop {set : Int} {K : List Int → Prop} : ∀ (k : Nat) (i : Int) (o : List Int), i + k = 8 → 0 ≤ i → (o.length : Int) ≤ i → K (mbs set k i o) → L.speculate_members_L1_R set (k + 1) i o K
  | 0, i, o, hi, h0, ho, hK => by
    show L.speculate_members_L1_b set i o _ _
    exact cond_f (by simp; omega) hK
  | k + 1, i, o, hi, h0, ho, hK => by
    show L.speculate_members_L1_b set i o _ _
    unfold L.speculate_members_L1_b
    rw [mbs] at hK
    have ei : i64 (i + 1) = i + 1 := i64_id (by omega) (by omega)
    refine cond_t (by simp; omega) ⟨h0, ?_⟩
    cases hb : (i64 ((BitVec.ofInt 64 (set.fdiv (2 ^ (min i.toNat 64))) &&& BitVec.ofInt 64 1).toNat) == 1) with
    | true =>
      rw [hb, if_pos rfl] at hK
      refine cond_t rfl ⟨fits_of (by simp; omega), ?_⟩
      show L.speculate_members_L1_R set (k + 1) (i64 (i + 1)) (o ++ [i]) K
      rw [ei]
      exact members_loop k (i + 1) _ (by omega) (by omega) (by simp; omega) hK
    | false =>
      rw [hb, if_neg (by simp)] at hK
      refine cond_f rfl ?_
      show L.speculate_members_L1_R set (k + 1) (i64 (i + 1)) o K
      rw [ei]
      exact members_loop k (i + 1) _ (by omega) (by omega) (by omega) hK

theorem members_ok {set : Int} {K : List Int → Prop} (hK : K (mbs set 8 0 [])) : L.speculate_members set K :=
  ⟨⟨9, members_loop 8 0 [] (by omega) (by omega) (by simp) hK⟩⟩

theorem Chance_ok {l : List Int} {last : Int} {w : List Int} (hl : pf l = (0, 0)) (hn : l.length ≤ 8) (hw : big w.length) (hc : rcode l.length last w = 0) {K : Int → Int → Int → Prop} (hK : K (chs last w 0 l 1) 0 0) : L.speculate_Chance l last w K := by
  have hr := rcode_len hc
  constructor
  unfold L.speculate_Chance_B
  refine checkPercents_ok ?_
  rw [hl]
  refine cond_f (by decide) (checkRun_ok hw ?_)
  rw [hc]
  exact cond_f (by decide) (chance_ok (by omega) (by omega) hK)

end Sp
end Go.Proofs.Ytjlejiefkmimiaa

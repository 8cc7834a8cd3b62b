/-
  What the functions of the search for culprits compute: codes, runs, the first failing beginning. Conditions: none.
-/
import Derived.Test.YtckiebnjeofhkaaDoorLift3
import Derived.Test.YtckiebnjeofhkaaDoorEngX
import Derived.Test.YtckiebnjeofhkaaDoorEngV
set_option linter.unusedVariables false
namespace Go.Proofs.YtckiebnjeofhkaaDoor
open Eng
namespace Bb

theorem drop_cons {α : Type} {l : List α} {i : Nat} (d : α) (h : i < l.length) : l.drop i = l.getD i d :: l.drop (i + 1) := by
  rw [List.drop_eq_getElem_cons h, List.getD_eq_getElem?_getD, List.getElem?_eq_getElem h]; rfl
theorem getD_mem {α : Type} {l : List α} {i : Nat} (d : α) (h : i < l.length) : l.getD i d ∈ l := by
  rw [List.getD_eq_getElem?_getD, List.getElem?_eq_getElem h]; exact List.getElem_mem h

/-- A length that an index counts up to. -/
def big (n : Nat) : Prop := n ≤ 9223372036854775807

theorem big_of {n : Nat} (h : n ≤ maxLen) : big n := by unfold maxLen at h; unfold big; omega

/-- The code of a strictly increasing list. -/
def lc (n : Int) : Int → List Int → Int
  | _, [] => 0
  | p, k :: t => if k < 0 ∨ n ≤ k then 3 else if k ≤ p then 5 else lc n k t

theorem SetCode_loop {n : Int} {set : List Int} (hl : big set.length) {K : Int → Prop} : ∀ (fu i : Nat) (p : Int), i ≤ set.length → set.length - i < fu → K (lc n p (set.drop i)) → L.ref8_SetCode_L1_R n set fu p i (K 0) K
  | 0, i, _, _, h, _ => by omega
  | fu + 1, i, p, hi, h, hK => by
    unfold big at hl
    show L.ref8_SetCode_L1_b n set p i _ _ _
    unfold L.ref8_SetCode_L1_b
    rcases Nat.lt_or_ge i set.length with g | g
    · rw [drop_cons 0 g, lc] at hK
      have hin : inB (i : Int) set.length := inB_of (by omega) (by omega)
      refine cond_t (by simp; omega) ⟨hin, fun _ => hin, ?_⟩
      simp only [Int.toNat_natCast]
      by_cases c1 : set.getD i 0 < 0 ∨ n ≤ set.getD i 0
      · rw [if_pos c1] at hK; exact cond_t (by simp only [bor, Bool.or_eq_true, decide_eq_true_eq]; omega) hK
      · rw [if_neg c1] at hK
        refine cond_f (by simp only [bor, Bool.or_eq_false_iff, decide_eq_false_iff_not]; omega) ⟨hin, ?_⟩
        by_cases c2 : set.getD i 0 ≤ p
        · rw [if_pos c2] at hK; exact cond_t (decide_eq_true c2) hK
        · rw [if_neg c2] at hK
          refine cond_f (decide_eq_false c2) ⟨hin, ?_⟩
          rw [i64_id (by omega) (by omega)]
          exact SetCode_loop hl fu (i + 1) _ (by omega) (by omega) hK
    · rw [List.drop_eq_nil_of_le g] at hK
      exact cond_f (by simp; omega) hK

theorem SetCode_ok {n : Int} {set : List Int} (hl : big set.length) {K : Int → Prop} (hK : K (lc n (-1) set)) : L.ref8_SetCode n set K :=
  ⟨⟨⟨set.length + 1, SetCode_loop hl _ 0 _ (by omega) (by omega) hK⟩⟩⟩

def prev (l : List Int) : Nat → Int
  | 0 => -1
  | i + 1 => l.getD i 0

theorem list_loop {n : Int} {l : List Int} (hl : big l.length) {K : Int → Prop} : ∀ (fu i : Nat), i ≤ l.length → l.length - i < fu → K (lc n (prev l i) (l.drop i)) → L.batchbisect_list_L1_R n l l (l.length : Int) fu i (K 0) K
  | 0, i, _, h, _ => by omega
  | fu + 1, i, hi, h, hK => by
    unfold big at hl
    show L.batchbisect_list_L1_b n l l _ i _ _ _
    unfold L.batchbisect_list_L1_b
    rcases Nat.lt_or_ge i l.length with g | g
    · rw [drop_cons 0 g, lc] at hK
      have hin : inB (i : Int) l.length := inB_of (by omega) (by omega)
      refine cond_t (by simp; omega) ⟨hin, ?_⟩
      simp only [Int.toNat_natCast]
      by_cases c1 : l.getD i 0 < 0 ∨ n ≤ l.getD i 0
      · rw [if_pos c1] at hK; exact cond_t (by simp only [bor, Bool.or_eq_true, decide_eq_true_eq]; omega) hK
      · rw [if_neg c1] at hK
        refine cond_f (by simp only [bor, Bool.or_eq_false_iff, decide_eq_false_iff_not]; omega) ⟨fun hp => ?_, ?_⟩
        · rw [i64_id (by omega) (by omega)]
          have hp' : (0 : Int) < i := by simpa using hp
          exact inB_of (by omega) (by omega)
        · rw [i64_id (n := (i : Int) - 1) (by omega) (by omega), i64_id (n := (i : Int) + 1) (by omega) (by omega)]
          have hp : (bif decide ((i : Int) > 0) then decide (l.getD i 0 ≤ l.getD ((i : Int) - 1).toNat 0) else false) = decide (l.getD i 0 ≤ prev l i) := by
            cases i with
            | zero =>
              rw [show prev l 0 = -1 from rfl, decide_eq_false (p := ((0 : Nat) : Int) > 0) (by omega)]
              exact (decide_eq_false (by omega)).symm
            | succ j =>
              rw [decide_eq_true (p := ((j + 1 : Nat) : Int) > 0) (by omega), show (((j + 1 : Nat) : Int) - 1).toNat = j from by omega]; rfl
          rw [hp]
          by_cases c2 : l.getD i 0 ≤ prev l i
          · rw [if_pos c2] at hK; exact cond_t (decide_eq_true c2) hK
          · rw [if_neg c2] at hK
            exact cond_f (decide_eq_false c2) (list_loop hl fu (i + 1) (by omega) (by omega) hK)
    · rw [List.drop_eq_nil_of_le g] at hK
      exact cond_f (by simp; omega) hK

theorem list_ok {n : Int} {l : List Int} (hl : big l.length) {K : Int → Prop} (hK : K (lc n (-1) l)) : L.batchbisect_list n l K :=
  ⟨⟨⟨l.length + 1, list_loop hl _ 0 (by omega) (by omega) hK⟩⟩⟩

/-- The first bad set of culprits. -/
def cf (n : Int) : Int → List (List Int) → Int × Int
  | _, [] => (0, 0)
  | i, s :: t => if s = [] then (9, i) else if lc n (-1) s ≠ 0 then (lc n (-1) s, i) else cf n (i + 1) t

def vf (n : Int) (cs : List (List Int)) : Int × Int :=
  if n < 0 ∨ 16 < n then (3, -1) else if 8 < cs.length then (2, -1) else cf n 0 cs

theorem CulpritsFault_loop {n : Int} {cs : List (List Int)} (hl : big cs.length) (hs : ∀ s, s ∈ cs → big s.length) {K : Int → Int → Prop} {Q : Prop} (hQ : K 0 0 → Q) : ∀ (fu i : Nat), i ≤ cs.length → cs.length - i < fu → K (cf n i (cs.drop i)).1 (cf n i (cs.drop i)).2 →
    L.ref8_CulpritsFault_L1_R n cs fu i Q K
  | 0, i, _, h, _ => by omega
  | fu + 1, i, hi, h, hK => by
    unfold big at hl
    show L.ref8_CulpritsFault_L1_b n cs i _ _ _
    unfold L.ref8_CulpritsFault_L1_b
    rcases Nat.lt_or_ge i cs.length with g | g
    · rw [drop_cons [] g, cf] at hK
      have hin : inB (i : Int) cs.length := inB_of (by omega) (by omega)
      have hb := hs _ (getD_mem [] g)
      refine cond_t (by simp; omega) ⟨hin, ?_⟩
      simp only [Int.toNat_natCast]
      generalize cs.getD i [] = s at *
      by_cases c1 : s = []
      · rw [if_pos c1] at hK; subst c1; exact cond_t rfl ⟨hK⟩
      · rw [if_neg c1] at hK
        refine cond_f (by cases s with | nil => exact absurd rfl c1 | cons a t => simp; omega) ⟨hin, SetCode_ok hb ?_⟩
        by_cases c2 : lc n (-1) s ≠ 0
        · rw [if_pos c2] at hK; exact cond_t (by simpa using c2) ⟨hin, SetCode_ok hb ⟨hK⟩⟩
        · rw [if_neg c2] at hK
          refine cond_f (by simpa using c2) ?_
          rw [i64_id (by omega) (by omega)]
          exact CulpritsFault_loop hl hs hQ fu (i + 1) (by omega) (by omega) hK
    · rw [List.drop_eq_nil_of_le g] at hK
      exact cond_f (by simp; omega) (hQ hK)

theorem CulpritsFault_ok {n : Int} {cs : List (List Int)} (hs : ∀ s, s ∈ cs → big s.length) {K : Int → Int → Prop} (hK : K (vf n cs).1 (vf n cs).2) : L.ref8_CulpritsFault n cs K := by
  constructor
  unfold L.ref8_CulpritsFault_B
  unfold vf at hK
  by_cases c1 : n < 0 ∨ 16 < n
  · rw [if_pos c1] at hK; exact cond_t (by simp only [bor, Bool.or_eq_true, decide_eq_true_eq]; omega) ⟨hK⟩
  · rw [if_neg c1] at hK
    refine cond_f (by simp only [bor, Bool.or_eq_false_iff, decide_eq_false_iff_not]; omega) ?_
    by_cases c2 : 8 < cs.length
    · rw [if_pos c2] at hK; exact cond_t (by simp; omega) ⟨hK⟩
    · rw [if_neg c2] at hK
      refine cond_f (by simp; omega) ⟨⟨cs.length + 1, ?_⟩⟩
      have hz := CulpritsFault_loop (n := n) (cs := cs) (by unfold big; omega) hs (K := K) (Q := L.ref8_Fault 0 0 K) (fun h => ⟨h⟩) (cs.length + 1) 0 (by omega) (by omega) hK
      exact hz

end Bb
end Go.Proofs.YtckiebnjeofhkaaDoor

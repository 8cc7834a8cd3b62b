/-
  What the functions of the search for culprits compute: validation, runs. Conditions: none.
-/
import Derived.Test.YtckiebnjeofhkaaDoorLbS
set_option linter.unusedVariables false
namespace Go.Proofs.YtckiebnjeofhkaaDoor
open Eng
namespace Bb

theorem dec_bool {p : Prop} [Decidable p] {b : Bool} (h : p ↔ b = true) : decide p = b := by
  cases b with
  | true => exact decide_eq_true (h.mpr rfl)
  | false => exact decide_eq_false fun hp => by cases h.mp hp

theorem Validate_loop {n : Int} {cs : List (List Int)} (hl : big cs.length) (hs : ∀ s, s ∈ cs → big s.length) {K : Int → Int → Prop} : ∀ (fu i : Nat), i ≤ cs.length → cs.length - i < fu → K (cf n i (cs.drop i)).1 (cf n i (cs.drop i)).2 →
    L.batchbisect_Validate_L1_R n cs (cs.length : Int) fu i (K 0 0) K
  | 0, i, _, h, _ => by omega
  | fu + 1, i, hi, h, hK => by
    unfold big at hl
    show L.batchbisect_Validate_L1_b n cs _ i _ _ _
    unfold L.batchbisect_Validate_L1_b
    rcases Nat.lt_or_ge i cs.length with g | g
    · rw [drop_cons [] g, cf] at hK
      have hin : inB (i : Int) cs.length := inB_of (by omega) (by omega)
      have hb := hs _ (getD_mem [] g)
      refine cond_t (by simp; omega) ⟨hin, ?_⟩
      simp only [Int.toNat_natCast]
      rw [i64_id (by omega) (by omega)]
      generalize cs.getD i [] = s at *
      by_cases c1 : s = []
      · rw [if_pos c1] at hK; subst c1; exact list_ok hb (cond_t rfl ⟨cond_t rfl hK⟩)
      · rw [if_neg c1] at hK
        refine list_ok hb (cond_f (by cases s with | nil => exact absurd rfl c1 | cons a t => simp; omega) ?_)
        by_cases c2 : lc n (-1) s ≠ 0
        · rw [if_pos c2] at hK; exact ⟨cond_t (by simpa using c2) hK⟩
        · rw [if_neg c2] at hK
          exact ⟨cond_f (by simpa using c2) (Validate_loop hl hs fu (i + 1) (by omega) (by omega) hK)⟩
    · rw [List.drop_eq_nil_of_le g] at hK
      exact cond_f (by simp; omega) hK

theorem Validate_ok {n : Int} {cs : List (List Int)} (hs : ∀ s, s ∈ cs → big s.length) {K : Int → Int → Prop} (hK : K (vf n cs).1 (vf n cs).2) : L.batchbisect_Validate n cs K := by
  constructor
  unfold L.batchbisect_Validate_B
  unfold vf at hK
  by_cases c1 : n < 0 ∨ 16 < n
  · rw [if_pos c1] at hK; exact cond_t (by simp only [bor, Bool.or_eq_true, decide_eq_true_eq]; omega) hK
  · rw [if_neg c1] at hK
    refine cond_f (by simp only [bor, Bool.or_eq_false_iff, decide_eq_false_iff_not]; omega) ?_
    by_cases c2 : 8 < cs.length
    · rw [if_pos c2] at hK; exact cond_t (by simp; omega) hK
    · rw [if_neg c2] at hK
      refine cond_f (by simp; omega) ⟨⟨cs.length + 1, ?_⟩⟩
      have hz := Validate_loop (n := n) (cs := cs) (by unfold big; omega) hs (K := K) (cs.length + 1) 0 (by omega) (by omega) hK
      exact hz

/-- Whether the number is in the list. -/
def has (s : List Int) (k : Int) : Bool := decide (k ∈ s)

theorem Index_loop {s : List Int} {v : Int} (hl : big s.length) {K : Int → Prop} : ∀ (fu i : Nat), i ≤ s.length → s.length - i < fu → (∀ r : Int, (0 ≤ r ↔ v ∈ s.drop i) → K r) → L.slices_Index_L1_R s v (s.length : Int) fu i (K (-1)) K
  | 0, i, _, h, _ => by omega
  | fu + 1, i, hi, h, hK => by
    unfold big at hl
    show L.slices_Index_L1_b s v _ i _ _ _
    unfold L.slices_Index_L1_b
    rcases Nat.lt_or_ge i s.length with g | g
    · rw [drop_cons 0 g] at hK
      refine cond_t (by simp; omega) ⟨inB_of (by omega) (by omega), ?_⟩
      simp only [Int.toNat_natCast]
      by_cases c : v = s.getD i 0
      · exact cond_t (by simpa using c) (hK _ (by simp [c]))
      · refine cond_f (by simpa using c) ?_
        rw [i64_id (by omega) (by omega)]
        refine Index_loop hl fu (i + 1) (by omega) (by omega) fun r hr => hK r ?_
        rw [hr, List.mem_cons]
        exact ⟨.inr, fun h => h.resolve_left c⟩
    · rw [List.drop_eq_nil_of_le g] at hK
      exact cond_f (by simp; omega) (hK _ (by simp))

theorem Contains_ok {s : List Int} {v : Int} (hl : big s.length) {K : Bool → Prop} (hK : K (has s v)) : L.slices_Contains s v K := by
  refine ⟨⟨⟨⟨s.length + 1, Index_loop (K := fun r => K (decide (r ≥ 0))) hl _ 0 (by omega) (by omega) fun r hr => ?_⟩⟩⟩⟩
  have e : decide (r ≥ 0) = has s v := by
    unfold has
    exact decide_eq_decide.mpr (by simpa using hr)
  rw [e]; exact hK

theorem IndexFunc6_loop {s c : List Int} (hl : big s.length) (hc : big c.length) {K : Int → Prop} : ∀ (fu i : Nat), i ≤ s.length → s.length - i < fu → (∀ r : Int, (0 ≤ r ↔ (s.drop i).any (fun k => !has c k) = true) → K r) → L.slices_IndexFunc_i2_v14_L1_R s c (s.length : Int) fu i (K (-1)) K
  | 0, i, _, h, _ => by omega
  | fu + 1, i, hi, h, hK => by
    unfold big at hl
    show L.slices_IndexFunc_i2_v14_L1_b s c _ i _ _ _
    unfold L.slices_IndexFunc_i2_v14_L1_b
    rcases Nat.lt_or_ge i s.length with g | g
    · rw [drop_cons 0 g, List.any_cons] at hK
      refine cond_t (by simp; omega) ⟨inB_of (by omega) (by omega), ⟨⟨Contains_ok hc ?_⟩⟩⟩
      simp only [Int.toNat_natCast]
      cases e : has c (s.getD i 0) with
      | false => exact cond_t rfl (hK _ (by rw [e]; exact ⟨fun _ => rfl, fun _ => by omega⟩))
      | true =>
        refine cond_f rfl ?_
        rw [i64_id (by omega) (by omega)]
        refine IndexFunc6_loop hl hc fu (i + 1) (by omega) (by omega) fun r hr => hK r ?_
        rw [hr, e]; exact Iff.rfl
    · rw [List.drop_eq_nil_of_le g] at hK
      exact cond_f (by simp; omega) (hK _ (by simp))

theorem all_not_any (s : List Int) (p : Int → Bool) : (!s.any (fun k => !p k)) = s.all p := by
  induction s with
  | nil => rfl
  | cons a t ih => rw [List.any_cons, List.all_cons, ← ih]; cases p a <;> simp

theorem Run1_ok {s c : List Int} (hl : big s.length) (hc : big c.length) {K : Bool → Prop} (hK : K (s.all (has c))) : L.batchbisect_Run_1_v12 s c K := by
  refine ⟨⟨⟨⟨⟨s.length + 1, IndexFunc6_loop (K := fun r => K (!decide (r ≥ 0))) hl hc _ 0 (by omega) (by omega) fun r hr => ?_⟩⟩⟩⟩⟩
  have e : (!decide (r ≥ 0)) = s.all (has c) := by
    rw [← all_not_any]
    congr 1
    have hr' : (r ≥ 0) ↔ (s.any fun k => !has c k) = true := by simpa using hr
    rw [dec_bool hr']
  rw [e]; exact hK

/-- Whether the tests fail with the changes. -/
def fails (cs : List (List Int)) (set : List Int) : Bool := cs.any fun s => s.all (has set)

theorem IndexFunc3_loop {cs : List (List Int)} {c : List Int} (hl : big cs.length) (hs : ∀ s, s ∈ cs → big s.length) (hc : big c.length) {K : Int → Prop} : ∀ (fu i : Nat), i ≤ cs.length → cs.length - i < fu → (∀ r : Int, (0 ≤ r ↔ fails (cs.drop i) c = true) → K r) → L.slices_IndexFunc_v11_L1_R cs c (cs.length : Int) fu i (K (-1)) K
  | 0, i, _, h, _ => by omega
  | fu + 1, i, hi, h, hK => by
    unfold big at hl
    show L.slices_IndexFunc_v11_L1_b cs c _ i _ _ _
    unfold L.slices_IndexFunc_v11_L1_b
    rcases Nat.lt_or_ge i cs.length with g | g
    · unfold fails at hK
      rw [drop_cons [] g, List.any_cons] at hK
      have hb := hs _ (getD_mem [] g)
      refine cond_t (by simp; omega) ⟨inB_of (by omega) (by omega), ?_⟩
      simp only [Int.toNat_natCast]
      refine Run1_ok hb hc ?_
      cases e : (cs.getD i []).all (has c) with
      | true => exact cond_t rfl (hK _ (by rw [e]; exact ⟨fun _ => rfl, fun _ => by omega⟩))
      | false =>
        refine cond_f rfl ?_
        rw [i64_id (by omega) (by omega)]
        refine IndexFunc3_loop hl hs hc fu (i + 1) (by omega) (by omega) fun r hr => hK r ?_
        rw [hr, e]; exact Iff.rfl
    · rw [List.drop_eq_nil_of_le g] at hK
      exact cond_f (by simp; omega) (hK _ (by simp [fails]))

theorem Run_ok {cs : List (List Int)} {c : List Int} (hl : big cs.length) (hs : ∀ s, s ∈ cs → big s.length) (hc : big c.length) {K : Bool → Prop} (hK : K (fails cs c)) : L.batchbisect_Run_v9 cs c K := by
  refine ⟨⟨⟨⟨⟨cs.length + 1, IndexFunc3_loop (K := fun r => K (decide (r ≥ 0))) hl hs hc _ 0 (by omega) (by omega) fun r hr => ?_⟩⟩⟩⟩⟩
  have hr' : (r ≥ 0) ↔ fails cs c = true := by simpa using hr
  have e : decide (r ≥ 0) = fails cs c := dec_bool hr'
  rw [e]; exact hK

end Bb
end Go.Proofs.YtckiebnjeofhkaaDoor

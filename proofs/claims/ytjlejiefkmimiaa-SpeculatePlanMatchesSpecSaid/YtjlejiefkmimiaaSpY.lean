/-
  Speculation: the example. Conditions: none.
-/
import Derived.Test.YtjlejiefkmimiaaSpX
set_option linter.unusedVariables false
namespace Go.Proofs.Ytjlejiefkmimiaa
open Eng
namespace Sp

theorem kof {K : Int → Prop} {a b : Int} (h : a = b) (hK : K b) : K a := h ▸ hK

theorem cloneT_ok {s : List (Int × List Int)} (hl : s.length ≤ 1000) {K : List (Int × List Int) → Prop} (hK : K s) : L.slices_Clone_h18 s K := by
  constructor
  intro b hb
  cases b with
  | false => exact ⟨fits_of (by simpa using hl), by simpa using hK⟩
  | true =>
    have : s = [] := by
      cases s with
      | nil => rfl
      | cons x r => exact absurd (hb (by simp)) (by simp)
    subst this
    exact hK

theorem Compare_ok {x y : Int} {K : Int → Prop} (hK : K (if x < y then -1 else if y < x then 1 else 0)) : L.cmp_Compare x y K := by
  constructor
  unfold L.cmp_Compare_B
  refine ⟨?_⟩
  unfold L.cmp_isNaN_B
  refine ⟨?_⟩
  unfold L.cmp_isNaN_B
  refine cond_f (by simp) (cond_f (by simp) ?_)
  by_cases h : x < y
  · rw [if_pos h] at hK
    exact cond_t (decide_eq_true h) hK
  · rw [if_neg h] at hK
    refine cond_f (decide_eq_false h) ?_
    by_cases h2 : y < x
    · rw [if_pos h2] at hK
      exact cond_t (decide_eq_true h2) hK
    · rw [if_neg h2] at hK
      exact cond_f (decide_eq_false h2) hK

theorem sort_ex {K : List (Int × List Int) → List Int → Prop} (hK : K [(0, []), (1, [0])] [100, 100]) : L.slices_SortStableFunc_h8 [(0, []), (1, [0])] [100, 100] K := by
  refine ⟨⟨⟨1, ?_⟩⟩⟩
  show L.slices_stableCmpFunc_h9_L1_b 2 20 0 20 [(0, []), (1, [0])] [100, 100] _ _
  refine cond_f (by decide) ⟨⟨2, ?_⟩⟩
  show L.slices_insertionSortCmpFunc_h10_L1_b 0 2 [100, 100] 1 [(0, []), (1, [0])] _ _
  refine cond_t (by decide) ⟨1, ?_⟩
  show L.slices_insertionSortCmpFunc_h10_L2_b 0 [100, 100] 1 [(0, []), (1, [0])] _ _
  refine ⟨fun _ => inB_of (by decide) (by decide), fun _ => inB_of (by decide) (by decide), cond_t (by decide) ⟨?_⟩⟩
  refine chance_ok (by decide) (by decide) (chance_ok (by decide) (by decide) (Compare_ok (cond_f (by decide +kernel) ?_)))
  show L.slices_insertionSortCmpFunc_h10_L1_b 0 2 [100, 100] (i64 (1 + 1)) [(0, []), (1, [0])] _ _
  refine cond_f (by decide +kernel) ⟨1, ?_⟩
  show L.slices_stableCmpFunc_h9_L2_b 2 20 [(0, []), (1, [0])] [100, 100] _ _
  exact cond_f (by decide) hK

theorem plan_ex {K : Int → Int → List (Int × List Int) → Prop} (hK : K 0 0 [(0, []), (1, [0])]) : L.speculate_Plan_h19 [100, 100] 2 K := by
  constructor
  unfold L.speculate_Plan_h19_B
  refine checkPercents_ok (cond_f (by decide) (cond_f (by decide) ⟨3, ?_⟩))
  show L.speculate_Plan_h19_L1_b 2 [100, 100] 0 [] _ _
  refine cond_t (by decide) ⟨by decide, ⟨2, ?_⟩⟩
  show L.speculate_Plan_h19_L2_b 0 _ [100, 100] 0 [] _ _
  refine cond_t (by decide +kernel) (members_ok (chance_ok (by decide) (by decide +kernel) (cond_t (by decide +kernel) ⟨fits_of (by decide), ?_⟩)))
  show L.speculate_Plan_h19_L2_b 0 _ [100, 100] (i64 (0 + 1)) _ _ _
  refine cond_f (by decide +kernel) ?_
  show L.speculate_Plan_h19_L1_b 2 [100, 100] (i64 (0 + 1)) _ _ _
  refine cond_t (by decide +kernel) ⟨by decide +kernel, ⟨3, ?_⟩⟩
  show L.speculate_Plan_h19_L2_b (i64 (0 + 1)) _ [100, 100] 0 _ _ _
  refine cond_t (by decide +kernel) (members_ok (chance_ok (by decide) (by decide +kernel) (cond_f (by decide +kernel) ?_)))
  show L.speculate_Plan_h19_L2_b (i64 (0 + 1)) _ [100, 100] (i64 (0 + 1)) _ _ _
  refine cond_t (by decide +kernel) (members_ok (chance_ok (by decide) (by decide +kernel) (cond_t (by decide +kernel) ⟨fits_of (by decide), ?_⟩)))
  show L.speculate_Plan_h19_L2_b (i64 (0 + 1)) _ [100, 100] (i64 (i64 (0 + 1) + 1)) _ _ _
  refine cond_f (by decide +kernel) ?_
  show L.speculate_Plan_h19_L1_b 2 [100, 100] (i64 (i64 (0 + 1) + 1)) _ _ _
  refine cond_f (by decide +kernel) ?_
  have e : (([] : List (Int × List Int)) ++ [(0, mbs 0 8 0 [])]) ++ [(i64 (0 + 1), mbs (i64 (0 + 1)) 8 0 [])] = [(0, []), (1, [0])] := by decide +kernel
  show L.slices_SortStableFunc_h8 ((([] : List (Int × List Int)) ++ [(0, mbs 0 8 0 [])]) ++ [(i64 (0 + 1), mbs (i64 (0 + 1)) 8 0 [])]) [100, 100] _
  rw [e]
  exact sort_ex ⟨by decide, cloneT_ok (by decide) hK⟩

theorem bigs_ex : bigs [((0, ([] : List Int)), false), ((1, ([] : List Int)), true)] := by
  intro x hx
  simp only [List.mem_cons, List.not_mem_nil, or_false] at hx
  rcases hx with rfl | rfl <;> (unfold big; decide)

theorem bigs_ex1 : bigs (([((0, ([] : List Int)), false), ((1, ([] : List Int)), true)] : List T).drop 0 |>.take 1) := by
  intro x hx
  have : x = ((0, []), false) := by simpa using hx
  subst this
  unfold big; decide

theorem example_ok (K : Bool → Prop) (hK : K true) : L.law8_speculateExample K := by
  have hk : ∀ b, b = true → K b := fun b h => h ▸ hK
  constructor
  unfold L.law8_speculateExample_B
  refine Chance_ok (by decide) (by decide) (by unfold big; decide) (by decide) (plan_ex ?_)
  refine Decide_ok bigs_ex (by decide) ⟨by decide, Next_ok bigs_ex1 (by decide) (fun h => absurd h (by decide)) (fun _ => ⟨by decide, Useful_ok bigs_ex1 (by unfold big; decide) (by decide) (fun h => absurd (by decide) h) (fun _ => ⟨by decide, Useful_ok bigs_ex1 (by unfold big; decide) (by decide) (fun h => absurd (by decide) h) (fun _ => ⟨fun _ => inB_of (by decide) (by decide), ?_⟩)⟩)⟩)⟩
  refine cond_t (by decide +kernel) (EqualRuns_ok (by unfold big; decide) (cond_t (by decide) (EqualInts_ok (by unfold big; decide) (cond_t (by decide) (EqualInts_ok (by unfold big; decide) (cond_t (by decide) (EqualRuns_ok (by unfold big; decide) (hk _ (by decide)))))))))

end Sp

theorem SpeculateResultsMatchSpec_true (xs : ArgDen [(false, (.int .i64)), (false, (.slice (.pair (.pair (.int .i64) (.slice (.int .i64))) .bool))), (true, (.pair (.int .i64) (.slice (.int .i64))))]) (hw : WfAll _ xs) (K : Bool → Prop) (hK : K true) : L.law8_SpeculateResultsMatchSpec xs.1 xs.2.1 xs.2.2.1.1 xs.2.2.1.2 K :=
  Sp.results_true Sp.example_ok (fun x hx => Sp.big_of (hw.2.1.2 x hx).1.2.1) (Sp.big_of hw.2.2.1.2.1) K hK

end Go.Proofs.Ytjlejiefkmimiaa

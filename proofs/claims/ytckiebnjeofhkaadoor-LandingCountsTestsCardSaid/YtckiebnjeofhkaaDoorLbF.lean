/-
  What the functions of the search for culprits compute: Fails, First, Greedy, and the reference's. Conditions: none.
-/
import Derived.Test.YtckiebnjeofhkaaDoorLbT
set_option linter.unusedVariables false
namespace Go.Proofs.YtckiebnjeofhkaaDoor
open Eng
namespace Bb

theorem fits_of {n : Nat} (h : n ≤ 1000) : fits n := by unfold fits; omega

theorem fault0 {a b : Int} (h : (a, b) = ((0, 0) : Int × Int)) : (!((a == 0) && ((b == 0) && true))) = false := by
  cases h; rfl
theorem fault1 {a b : Int} (h : (a, b) ≠ ((0, 0) : Int × Int)) : (!((a == 0) && ((b == 0) && true))) = true := by
  by_cases ha : a = 0
  · by_cases hb : b = 0
    · subst ha; subst hb; exact absurd rfl h
    · simp [ha, hb]
  · simp [ha]

theorem Fails_ok {n : Int} {cs : List (List Int)} {set : List Int} (hs : ∀ s, s ∈ cs → big s.length) (hc : big set.length) (hv : vf n cs = (0, 0)) (hl : lc n (-1) set = 0) {K : Bool → Int → Int → Prop} (hK : K (fails cs set) 0 0) : L.batchbisect_Fails n cs set K := by
  refine ⟨Validate_ok hs (cond_f (fault0 hv) (list_ok hc (cond_f (by rw [hl]; rfl) (Run_okF ?_ hs hc hK))))⟩
  unfold vf at hv
  split at hv
  · cases hv
  · split at hv
    · cases hv
    · unfold big; omega
theorem Fails_code {n : Int} {cs : List (List Int)} {set : List Int} (hs : ∀ s, s ∈ cs → big s.length) (hc : big set.length) (hv : vf n cs = (0, 0)) (hl : lc n (-1) set ≠ 0) {K : Bool → Int → Int → Prop} (hK : K false (lc n (-1) set) (-2)) : L.batchbisect_Fails n cs set K :=
  ⟨Validate_ok hs (cond_f (fault0 hv) (list_ok hc (cond_t (by simpa using hl) hK)))⟩
theorem Fails_bad {n : Int} {cs : List (List Int)} {set : List Int} (hs : ∀ s, s ∈ cs → big s.length) (hv : vf n cs ≠ (0, 0)) {K : Bool → Int → Int → Prop} (hK : K false (vf n cs).1 (vf n cs).2) : L.batchbisect_Fails n cs set K :=
  ⟨Validate_ok hs (cond_t (fault1 hv) hK)⟩

theorem vf_len {n : Int} {cs : List (List Int)} (hv : vf n cs = (0, 0)) : 0 ≤ n ∧ n ≤ 16 ∧ cs.length ≤ 8 := by
  unfold vf at hv
  split at hv
  · cases hv
  · split at hv
    · cases hv
    · omega
theorem big_vf {n : Int} {cs : List (List Int)} (hv : vf n cs = (0, 0)) : big cs.length := by
  have := vf_len hv; unfold big; omega
theorem big_nil : big ([] : List Int).length := by unfold big; simp
theorem Clone_ok {s : List Int} (h : s.length ≤ 1000) {K : List Int → Prop} (hK : K s) : L.slices_Clone_i2 s K := by
  constructor
  intro b hb
  cases b with
  | true =>
    have : s = [] := by
      cases s with
      | nil => rfl
      | cons a t => exact absurd (hb (by simp)) (by simp)
    subst this; exact hK
  | false => exact ⟨fits_of (by simpa using h), hK⟩

theorem Equal_loop {a b : List Int} (hl : big a.length) (he : a.length = b.length) {K : Bool → Prop} : ∀ (fu i : Nat), i ≤ a.length → a.length - i < fu → K (decide (a.drop i = b.drop i)) → L.ref8_EqualInts_L1_R a b fu i (K true) K
  | 0, i, _, h, _ => by omega
  | fu + 1, i, hi, h, hK => by
    unfold big at hl
    show L.ref8_EqualInts_L1_b a b i _ _ _
    unfold L.ref8_EqualInts_L1_b
    rcases Nat.lt_or_ge i a.length with g | g
    · rw [drop_cons 0 g, drop_cons (l := b) 0 (by omega)] at hK
      refine cond_t (by simp; omega) ⟨inB_of (by omega) (by omega), inB_of (by omega) (by omega), ?_⟩
      simp only [Int.toNat_natCast]
      by_cases c : a.getD i 0 = b.getD i 0
      · refine cond_f (by rw [c]; simp) ?_
        rw [i64_id (by omega) (by omega)]
        refine Equal_loop hl he fu (i + 1) (by omega) (by omega) ?_
        rw [c] at hK
        have e : decide (b.getD i 0 :: a.drop (i + 1) = b.getD i 0 :: b.drop (i + 1)) = decide (a.drop (i + 1) = b.drop (i + 1)) := by
          exact decide_eq_decide.mpr (by simp)
        rw [e] at hK; exact hK
      · refine cond_t (by simpa using c) ?_
        rw [decide_eq_false (fun h => c (List.cons.inj h).1)] at hK; exact hK
    · rw [List.drop_eq_nil_of_le g, List.drop_eq_nil_of_le (show b.length ≤ i by omega)] at hK
      exact cond_f (by simp; omega) hK

theorem Equal_ok {a b : List Int} (hl : big a.length) {K : Bool → Prop} (hK : K (decide (a = b))) : L.ref8_EqualInts a b K := by
  constructor
  unfold L.ref8_EqualInts_B
  by_cases e : a.length = b.length
  · exact cond_f (by simp; omega) ⟨⟨a.length + 1, Equal_loop hl e _ 0 (by omega) (by omega) hK⟩⟩
  · rw [decide_eq_false (by intro h; exact e (by rw [h]))] at hK
    exact cond_t (by simp; omega) hK

theorem Has_loop {s : List Int} {v : Int} (hl : big s.length) {K : Bool → Prop} : ∀ (fu i : Nat), i ≤ s.length → s.length - i < fu → K (has (s.drop i) v) → L.ref8_Has_L1_R s v fu i (K false) K
  | 0, i, _, h, _ => by omega
  | fu + 1, i, hi, h, hK => by
    unfold big at hl
    show L.ref8_Has_L1_b s v i _ _ _
    unfold L.ref8_Has_L1_b
    rcases Nat.lt_or_ge i s.length with g | g
    · rw [drop_cons 0 g] at hK
      refine cond_t (by simp; omega) ⟨inB_of (by omega) (by omega), ?_⟩
      simp only [Int.toNat_natCast]
      by_cases c : s.getD i 0 = v
      · refine cond_t (by simpa using c) ?_
        rw [c] at hK
        rwa [show has (v :: s.drop (i + 1)) v = true from decide_eq_true (by simp)] at hK
      · refine cond_f (by simpa using c) ?_
        rw [i64_id (by omega) (by omega)]
        refine Has_loop hl fu (i + 1) (by omega) (by omega) ?_
        have e : has (s.getD i 0 :: s.drop (i + 1)) v = has (s.drop (i + 1)) v := by
          unfold has
          refine decide_eq_decide.mpr ?_
          rw [List.mem_cons]
          exact ⟨fun h => h.resolve_left (fun h => c h.symm), .inr⟩
        rwa [e] at hK
    · rw [List.drop_eq_nil_of_le g] at hK
      exact cond_f (by simp; omega) hK

theorem Has_ok {s : List Int} {v : Int} (hl : big s.length) {K : Bool → Prop} (hK : K (has s v)) : L.ref8_Has s v K :=
  ⟨⟨⟨s.length + 1, Has_loop hl _ 0 (by omega) (by omega) hK⟩⟩⟩

end Bb
end Go.Proofs.YtckiebnjeofhkaaDoor

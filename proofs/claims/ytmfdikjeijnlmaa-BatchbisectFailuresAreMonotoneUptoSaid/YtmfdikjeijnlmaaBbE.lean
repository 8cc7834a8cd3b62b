/-
  What the functions of the search for culprits compute: the insertion sort, Minimal, the example. Conditions: none.
-/
import Derived.Test.YtmfdikjeijnlmaaBbF
import Derived.Test.YtmfdikjeijnlmaaLift2
set_option linter.unusedVariables false
set_option maxRecDepth 100000
namespace Go.Proofs.Ytmfdikjeijnlmaa
open Eng
namespace Bb

theorem Less_ok {x y : Int} {K : Bool → Prop} (hK : K (decide (x < y))) : L.cmp_Less x y K := ⟨⟨cond_f (by simp) hK⟩⟩

/-- An element is moved down to its place. -/
def sink : Nat → List Int → List Int
  | 0, d => d
  | j + 1, d => if d.getD (j + 1) 0 < d.getD j 0 then sink j ((d.set (j + 1) (d.getD j 0)).set j (d.getD (j + 1) 0)) else d
theorem sink_len : ∀ (j : Nat) (d : List Int), (sink j d).length = d.length
  | 0, _ => rfl
  | j + 1, d => by
    rw [sink]
    split
    · rw [sink_len j]; simp
    · rfl

theorem sink_loop {K : List Int → Prop} : ∀ (fu j : Nat) (d : List Int), j < d.length → d.length ≤ 1000 → j < fu → K (sink j d) → L.slices_insertionSortOrdered_h22_L2_R 0 fu j d K
  | 0, j, _, _, _, h, _ => by omega
  | fu + 1, 0, d, hj, hd, h, hK => by
    show L.slices_insertionSortOrdered_h22_L2_b 0 (0 : Int) d _ _
    unfold L.slices_insertionSortOrdered_h22_L2_b
    exact ⟨fun h => by simp at h, fun h => by simp at h, cond_f rfl ⟨cond_f rfl hK⟩⟩
  | fu + 1, j + 1, d, hj, hd, h, hK => by
    show L.slices_insertionSortOrdered_h22_L2_b 0 ((j + 1 : Nat) : Int) d _ _
    unfold L.slices_insertionSortOrdered_h22_L2_b
    have e1 : i64 (((j + 1 : Nat) : Int) - 1) = (j : Int) := by rw [i64_id (by omega) (by omega)]; omega
    rw [e1]
    have i1 : inB ((j + 1 : Nat) : Int) d.length := inB_of (by omega) (by omega)
    have i0 : inB (j : Int) d.length := inB_of (by omega) (by omega)
    have hpos : decide (((j + 1 : Nat) : Int) > 0) = true := decide_eq_true (by omega)
    rw [hpos]
    refine ⟨fun _ => i1, fun _ => i0, cond_t rfl (Less_ok ?_)⟩
    simp only [Int.toNat_natCast]
    rw [sink] at hK
    by_cases c : d.getD (j + 1) 0 < d.getD j 0
    · rw [if_pos c] at hK
      refine ⟨cond_t (decide_eq_true c) ⟨?_⟩⟩
      unfold L.slices_insertionSortOrdered_h22_J7_B
      rw [e1]
      refine ⟨i0, i1, i1, inB_of (by omega) (by simp; omega), ?_⟩
      simp only [Int.toNat_natCast]
      exact sink_loop fu j _ (by simp; omega) (by simpa using hd) (by omega) hK
    · rw [if_neg c] at hK
      exact ⟨cond_f (decide_eq_false c) hK⟩

/-- The insertion sort from an index on. -/
def isort : Nat → Nat → List Int → List Int
  | 0, _, d => d
  | fu + 1, i, d => isort fu (i + 1) (sink i d)

theorem isort_loop {K : List Int → Prop} : ∀ (fu i : Nat) (d : List Int), i + fu = d.length → d.length ≤ 1000 → K (isort fu i d) → L.slices_insertionSortOrdered_h22_L1_R 0 (d.length : Int) (fu + 1) i d K
  | 0, i, d, h, hd, hK => by
    show L.slices_insertionSortOrdered_h22_L1_b 0 _ i d _ _
    unfold L.slices_insertionSortOrdered_h22_L1_b
    exact cond_f (by simp; omega) hK
  | fu + 1, i, d, h, hd, hK => by
    show L.slices_insertionSortOrdered_h22_L1_b 0 _ i d _ _
    unfold L.slices_insertionSortOrdered_h22_L1_b
    refine cond_t (by simp; omega) ⟨⟨i + 1, sink_loop (i + 1) i d (by omega) hd (by omega) ?_⟩⟩
    rw [i64_id (by omega) (by omega)]
    have := isort_loop fu (i + 1) (sink i d) (by rw [sink_len]; omega) (by rw [sink_len]; omega) hK
    rwa [sink_len] at this

theorem Len_ok {x : Int} (h0 : 0 ≤ x) (h : x < 256) {K : Int → Prop} (hK : ∀ r, K r) : L.bits_Len x K := by
  refine ⟨⟨cond_f (decide_eq_false (by omega)) ⟨cond_f (decide_eq_false (by omega)) ⟨cond_f (decide_eq_false (by omega)) ⟨?_, hK _⟩⟩⟩⟩⟩
  have e : IntKind.wrap .u8 x = x := by
    unfold IntKind.wrap
    simp only [IntKind.bits, IntKind.signed]
    simp
    omega
  rw [e]
  have e2 : L.str1.size = 256 := by decide
  rw [e2]
  exact inB_of h0 (by omega)

theorem Sort12_ok {d : List Int} (h1 : 1 ≤ d.length) (h : d.length ≤ 12) {K : List Int → Prop} (hK : K (isort (d.length - 1) 1 d)) : L.slices_Sort_h20 d K := by
  have e : IntKind.wrap .u64 (d.length : Int) = d.length := by
    unfold IntKind.wrap
    simp only [IntKind.bits, IntKind.signed]
    simp
    omega
  refine ⟨Len_ok (by rw [e]; omega) (by rw [e]; omega) fun r => ⟨⟨⟨1, ?_⟩⟩⟩⟩
  show L.slices_pdqsortOrdered_h21_L1_b 0 _ r true d _ _
  unfold L.slices_pdqsortOrdered_h21_L1_b
  refine cond_t ?_ ⟨⟨⟨d.length - 1 + 1, ?_⟩⟩⟩
  · rw [i64_id (by omega) (by omega)]; exact decide_eq_true (by omega)
  · exact isort_loop (d.length - 1) 1 d (by omega) (by omega) hK

/-- The next member of the minimal set. -/
def ms (cs : List (List Int)) (n : Int) : Nat → Int → List Int → List Int
  | 0, _, out => out
  | fu + 1, c, out => if c < n then (bif failsB cs (c + 1) out then out ++ [c] else ms cs n fu (c + 1) out) else out

theorem ms_len (cs : List (List Int)) (n : Int) : ∀ (fu : Nat) (c : Int) (out : List Int), (ms cs n fu c out).length ≤ out.length + 1
  | 0, _, _ => by simp [ms]
  | fu + 1, c, out => by
    rw [ms]
    split
    · cases failsB cs (c + 1) out with
      | true => simp
      | false => exact ms_len cs n fu (c + 1) out
    · omega

theorem ms_loop {cs : List (List Int)} {n : Int} {out : List Int} (hl : big cs.length) (hs : ∀ s, s ∈ cs → big s.length) (ho : out.length ≤ 100) {K : List Int → Prop} : ∀ (fu : Nat) (c : Int), 0 ≤ c → n ≤ 16 → n - c ≤ fu →
    K (ms cs n fu c out) → L.batchbisect_Minimal_L2_R cs n out (fu + 1) c K
  | 0, c, h0, h1, h2, hK => by
    show L.batchbisect_Minimal_L2_b cs n out c _ _
    unfold L.batchbisect_Minimal_L2_b
    exact cond_f (decide_eq_false (by omega)) hK
  | fu + 1, c, h0, h1, h2, hK => by
    show L.batchbisect_Minimal_L2_b cs n out c _ _
    unfold L.batchbisect_Minimal_L2_b
    rw [ms] at hK
    by_cases g : c < n
    · rw [if_pos g] at hK
      rw [i64_id (by omega) (by omega)]
      refine cond_t (decide_eq_true g) (below_ok hl hs (by unfold big; omega) ?_)
      cases e : failsB cs (c + 1) out with
      | true => rw [e] at hK; exact cond_t rfl ⟨fits_of (by simp; omega), hK⟩
      | false => rw [e] at hK; exact cond_f rfl (ms_loop hl hs ho fu (c + 1) (by omega) h1 (by omega) hK)
    · rw [if_neg g] at hK
      exact cond_f (decide_eq_false g) hK

/-- The minimal set, as it is found. -/
def mm (cs : List (List Int)) (n : Int) : Nat → List Int → Option (List Int)
  | 0, _ => none
  | fu + 1, out => bif failsB cs 0 out then some out else mm cs n fu (ms cs n 16 0 out)

theorem mm_loop {cs : List (List Int)} {n : Int} (hl : big cs.length) (hs : ∀ s, s ∈ cs → big s.length) (hn : n ≤ 16) {r : List Int} {K : List Int → Prop} (hK : K r) : ∀ (fu : Nat) (out : List Int), out.length + fu ≤ 100 → mm cs n fu out = some r → L.batchbisect_Minimal_L1_R n cs fu out K
  | 0, _, _, h => by cases h
  | fu + 1, out, hf, h => by
    show L.batchbisect_Minimal_L1_b n cs out _ _
    unfold L.batchbisect_Minimal_L1_b
    refine below_ok hl hs (by unfold big; omega) ?_
    rw [mm] at h
    cases e : failsB cs 0 out with
    | true => rw [e] at h; cases h; exact cond_f rfl hK
    | false =>
      rw [e] at h
      refine cond_t rfl ⟨⟨17, ms_loop hl hs (by omega) 16 0 (by omega) hn (by omega) ?_⟩⟩
      exact mm_loop hl hs hn hK fu _ (by have := ms_len cs n 16 0 out; omega) h

theorem Minimal_ok {n : Int} {cs : List (List Int)} {r : List Int} (hs : ∀ s, s ∈ cs → big s.length) (hv : vf n cs = (0, 0)) (hf : failsB cs n [] = true) (hr : mm cs n 17 [] = some r) {K : List Int → Int → Int → Prop}
    (hK : L.slices_Sort_h20 r fun x => K x 0 0) : L.batchbisect_Minimal n cs K := by
  have hn := vf_len hv
  exact ⟨check_ok hs hv hf (cond_f rfl ⟨⟨17, mm_loop (K := fun out => L.slices_Sort_h20 out fun x => K x 0 0) (big_vf hv) hs hn.2.1 hK 17 [] (by simp) hr⟩⟩)⟩
theorem Minimal_bad {n : Int} {cs : List (List Int)} (hs : ∀ s, s ∈ cs → big s.length) (hv : vf n cs ≠ (0, 0)) {K : List Int → Int → Int → Prop} (hK : K [] (vf n cs).1 (vf n cs).2) : L.batchbisect_Minimal n cs K :=
  ⟨check_bad hs hv (cond_t (fault1 hv) hK)⟩
theorem Minimal_none {n : Int} {cs : List (List Int)} (hs : ∀ s, s ∈ cs → big s.length) (hv : vf n cs = (0, 0)) (hf : failsB cs n [] = false) {K : List Int → Int → Int → Prop} (hK : K [] 6 (-1)) : L.batchbisect_Minimal n cs K :=
  ⟨check_none hs hv hf (cond_t rfl hK)⟩

theorem big_small {n : Nat} (h : n ≤ 1000) : big n := by unfold big; omega

theorem bigs {cs : List (List Int)} (h : cs.all (fun s => decide (s.length ≤ 1000)) = true) : ∀ s, s ∈ cs → big s.length := by
  intro s hs
  have := List.all_eq_true.mp h s hs
  have h2 : s.length ≤ 1000 := of_decide_eq_true this
  unfold big; omega

theorem example_ok {K : Bool → Prop} (hK : K true) : L.law8_bisectExample K := by
  refine ⟨First_ok (bigs (by decide)) (by decide) (by decide) (Minimal_ok (r := [2, 1]) (bigs (by decide)) (by decide) (by decide) (by decide) (Sort12_ok (by decide) (by decide) (Greedy_ok (bigs (by decide)) (by decide) (Fails_ok (bigs (by decide)) (big_small (by decide)) (by decide) (by decide) ?_))))⟩
  refine cond_t (by decide) (Equal_ok (big_small (by decide)) (cond_t (by decide) (Equal_ok (big_small (by decide)) (cond_t (by decide) (Equal_ok (big_small (by decide)) ?_)))))
  exact Eq.mpr (congrArg K (by decide)) hK

end Bb
end Go.Proofs.Ytmfdikjeijnlmaa

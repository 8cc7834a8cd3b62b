/-
  What the functions of the search for culprits compute: the insertion sort, Minimal, the example. Conditions: none.
-/
import Derived.Test.YtmfdikjeijnlmaaBbF
import Derived.Test.YtmfdikjeijnlmaaLift2
set_option linter.unusedVariables false
set_option maxRecDepth 100000
namespace Go.Proofs.Ytmfdikjeijnlmaa
open Eng
namespace Bb

/-- A falling list, sorted. -/
theorem srt_falling {r : List Int} (h : r.Pairwise (· > ·)) : srt r = r.reverse := by
  refine List.Perm.eq_of_pairwise (le := fun x y : Int => x ≤ y) (fun a b _ _ h1 h2 => by omega) ?_ ?_ ((List.mergeSort_perm r _).trans (List.reverse_perm r).symm)
  · have := List.pairwise_mergeSort (le := fun x y : Int => decide (x ≤ y)) (fun a b c h1 h2 => by simp at *; omega) (fun a b => by simp; omega) r
    exact this.imp fun h => of_decide_eq_true h
  · exact List.pairwise_reverse.mpr (h.imp fun h => by omega)

/-- The next member of the minimal set. -/
def ms (cs : List (List Int)) (n : Int) : Nat → Int → List Int → List Int
  | 0, _, out => out
  | fu + 1, c, out => if c < n then (bif failsB cs (c + 1) out then out ++ [c] else ms cs n fu (c + 1) out) else out

theorem ms_len (cs : List (List Int)) (n : Int) : ∀ (fu : Nat) (c : Int) (out : List Int), (ms cs n fu c out).length ≤ out.length + 1
  | 0, _, _ => by simp [ms]
  | fu + 1, c, out => by
    rw [ms]
    split
    · cases failsB cs (c + 1) out with
      | true => simp
      | false => exact ms_len cs n fu (c + 1) out
    · omega

theorem ms_loop {cs : List (List Int)} {n : Int} {out : List Int} (hl : big cs.length) (hs : ∀ s, s ∈ cs → big s.length) (ho : out.length ≤ 100) {K : List Int → Prop} : ∀ (fu : Nat) (c : Int), 0 ≤ c → n ≤ 16 → n - c ≤ fu →
    K (ms cs n fu c out) → L.batchbisect_Minimal_L2_R cs n out (fu + 1) c K
  | 0, c, h0, h1, h2, hK => by
    show L.batchbisect_Minimal_L2_b cs n out c _ _
    unfold L.batchbisect_Minimal_L2_b
    exact cond_f (decide_eq_false (by omega)) hK
  | fu + 1, c, h0, h1, h2, hK => by
    show L.batchbisect_Minimal_L2_b cs n out c _ _
    unfold L.batchbisect_Minimal_L2_b
    rw [ms] at hK
    by_cases g : c < n
    · rw [if_pos g] at hK
      rw [i64_id (by omega) (by omega)]
      refine cond_t (decide_eq_true g) (below_ok hl hs (by unfold big; omega) ?_)
      cases e : failsB cs (c + 1) out with
      | true => rw [e] at hK; exact cond_t rfl ⟨fits_of (by simp; omega), hK⟩
      | false => rw [e] at hK; exact cond_f rfl (ms_loop hl hs ho fu (c + 1) (by omega) h1 (by omega) hK)
    · rw [if_neg g] at hK
      exact cond_f (decide_eq_false g) hK

/-- The minimal set, as it is found. -/
def mm (cs : List (List Int)) (n : Int) : Nat → List Int → Option (List Int)
  | 0, _ => none
  | fu + 1, out => bif failsB cs 0 out then some out else mm cs n fu (ms cs n 16 0 out)

theorem mm_loop {cs : List (List Int)} {n : Int} (hl : big cs.length) (hs : ∀ s, s ∈ cs → big s.length) (hn : n ≤ 16) {r : List Int} {K : List Int → Prop} (hK : K r) : ∀ (fu : Nat) (out : List Int), out.length + fu ≤ 100 → mm cs n fu out = some r → L.batchbisect_Minimal_L1_R n cs fu out K
  | 0, _, _, h => by cases h
  | fu + 1, out, hf, h => by
    show L.batchbisect_Minimal_L1_b n cs out _ _
    unfold L.batchbisect_Minimal_L1_b
    refine below_ok hl hs (by unfold big; omega) ?_
    rw [mm] at h
    cases e : failsB cs 0 out with
    | true => rw [e] at h; cases h; exact cond_f rfl hK
    | false =>
      rw [e] at h
      refine cond_t rfl ⟨⟨17, ms_loop hl hs (by omega) 16 0 (by omega) hn (by omega) ?_⟩⟩
      exact mm_loop hl hs hn hK fu _ (by have := ms_len cs n 16 0 out; omega) h

theorem Minimal_ok {n : Int} {cs : List (List Int)} {r : List Int} (hs : ∀ s, s ∈ cs → big s.length) (hv : vf n cs = (0, 0)) (hf : failsB cs n [] = true) (hr : mm cs n 17 [] = some r) {K : List Int → Int → Int → Prop}
    (h0 : r.length ≠ 0) (h1 : r.length ≤ 1000) (hK : K (srt r) 0 0) : L.batchbisect_Minimal n cs K := by
  have hn := vf_len hv
  exact ⟨check_ok hs hv hf (cond_f rfl ⟨⟨17, mm_loop (K := fun out => (out.length ≠ 0 ∧ fits out.length) ∧ K (srt out) 0 0) (big_vf hv) hs hn.2.1 ⟨⟨h0, fits_of h1⟩, hK⟩ 17 [] (by simp) hr⟩⟩)⟩
theorem Minimal_bad {n : Int} {cs : List (List Int)} (hs : ∀ s, s ∈ cs → big s.length) (hv : vf n cs ≠ (0, 0)) {K : List Int → Int → Int → Prop} (hK : K [] (vf n cs).1 (vf n cs).2) : L.batchbisect_Minimal n cs K :=
  ⟨check_bad hs hv (cond_t (fault1 hv) hK)⟩
theorem Minimal_none {n : Int} {cs : List (List Int)} (hs : ∀ s, s ∈ cs → big s.length) (hv : vf n cs = (0, 0)) (hf : failsB cs n [] = false) {K : List Int → Int → Int → Prop} (hK : K [] 6 (-1)) : L.batchbisect_Minimal n cs K :=
  ⟨check_none hs hv hf (cond_t rfl hK)⟩

theorem big_small {n : Nat} (h : n ≤ 1000) : big n := by unfold big; omega

theorem bigs {cs : List (List Int)} (h : cs.all (fun s => decide (s.length ≤ 1000)) = true) : ∀ s, s ∈ cs → big s.length := by
  intro s hs
  have := List.all_eq_true.mp h s hs
  have h2 : s.length ≤ 1000 := of_decide_eq_true this
  unfold big; omega

theorem example_ok {K : Bool → Prop} (hK : K true) : L.law8_bisectExample K := by
  refine ⟨First_ok (bigs (by decide)) (by decide) (by decide) (Minimal_ok (r := [2, 1]) (bigs (by decide)) (by decide) (by decide) (by decide) (by decide) (by decide) (Greedy_ok (bigs (by decide)) (by decide) (Fails_ok (bigs (by decide)) (big_small (by decide)) (by decide) (by decide) ?_)))⟩
  rw [srt_falling (by decide)]
  refine cond_t (by decide) (Equal_ok (big_small (by decide)) (cond_t (by decide) (Equal_ok (big_small (by decide)) (cond_t (by decide) (Equal_ok (big_small (by decide)) ?_)))))
  exact Eq.mpr (congrArg K (by decide)) hK

end Bb
end Go.Proofs.Ytmfdikjeijnlmaa

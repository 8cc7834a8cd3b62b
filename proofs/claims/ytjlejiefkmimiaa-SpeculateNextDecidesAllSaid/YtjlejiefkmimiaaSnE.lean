/-
  Speculation: the next run, useful runs, and the law of results, given the example. Conditions: none.
-/
import Derived.Test.YtjlejiefkmimiaaSnD
set_option linter.unusedVariables false
namespace Go.Proofs.Ytjlejiefkmimiaa
open Eng
namespace Sp

theorem Clone_ok {s : List Int} (hl : s.length ≤ 1000) {K : List Int → Prop} (hK : K s) : L.slices_Clone s K := by
  constructor
  intro b hb
  cases b with
  | false => exact ⟨fits_of (by simpa using hl), by simpa using hK⟩
  | true =>
    have : s = [] := by
      cases s with
      | nil => rfl
      | cons x r => exact absurd (hb (by simp)) (by simp)
    subst this
    exact hK

/-- What is decided of the results. -/
def dn (n : Int) (l : List T) : List Int × List Int := dc l n.toNat 0 [] []

theorem dn_len {n : Int} {l : List T} (h : rf n l = (0, 0)) : ((dn n l).1.length : Int) + (dn n l).2.length ≤ 8 := by
  have := dc_len l n.toNat 0 [] []
  have h2 := rf_small h
  unfold dn
  simp only [List.length_nil] at this
  omega

theorem Next_ok {n : Int} {l : List T} (hb : bigs l) (hf : rf n l = (0, 0)) {K : Int → List Int → Int → Int → Prop} (h1 : ((dn n l).1.length : Int) + (dn n l).2.length = n → K 0 [] 6 (-3)) (h2 : ((dn n l).1.length : Int) + (dn n l).2.length ≠ n → K (((dn n l).1.length : Int) + (dn n l).2.length) (dn n l).1 0 0) : L.speculate_Next n l K := by
  have hl := dn_len hf
  constructor
  unfold L.speculate_Next_B
  refine Decide_ok hb hf ?_
  show bif (!((0 == 0) && ((0 == 0) && true))) then _ else (bif ((i64 (((dn n l).1.length : Int) + ((dn n l).2.length : Int))) == n) then K 0 [] 6 (-3) else K (i64 (((dn n l).1.length : Int) + ((dn n l).2.length : Int))) (dn n l).1 0 0)
  rw [i64_id (by omega) (by omega)]
  refine cond_f (by decide) ?_
  by_cases h : ((dn n l).1.length : Int) + (dn n l).2.length = n
  · exact cond_t (by simpa using h) (h1 h)
  · exact cond_f (by simpa using h) (h2 h)

theorem Next_bad {n : Int} {l : List T} (hb : bigs l) (hf : (rf n l).1 ≠ 0) {K : Int → List Int → Int → Int → Prop} (hK : K 0 [] (rf n l).1 (rf n l).2) : L.speculate_Next n l K := by
  constructor
  unfold L.speculate_Next_B
  exact Decide_bad hb hf (cond_t (by simp [hf]) ⟨hK, hK⟩)

theorem Useful_bad {n : Int} {l : List T} {last : Int} {w : List Int} (hb : bigs l) (hf : (rf n l).1 ≠ 0) {K : Bool → Int → Int → Prop} (hK : K false (rf n l).1 (rf n l).2) : L.speculate_Useful n l last w K := by
  constructor
  unfold L.speculate_Useful_B
  exact Decide_bad hb hf (cond_t (by simp [hf]) hK)

/-- Whether a run is useful. -/
def usf (n : Int) (l : List T) (last : Int) (w : List Int) : Bool :=
  bif decide (last ≥ ((dn n l).1.length : Int) + (dn n l).2.length) then decide (upto (((dn n l).1.length : Int) + (dn n l).2.length) w = (dn n l).1) else false

theorem Useful_ok {n : Int} {l : List T} {last : Int} {w : List Int} (hb : bigs l) (hw : big w.length) (hf : rf n l = (0, 0)) {K : Bool → Int → Int → Prop} (h1 : rcode n last w ≠ 0 → K false (rcode n last w) (-3)) (h2 : rcode n last w = 0 → K (usf n l last w) 0 0) : L.speculate_Useful n l last w K := by
  have hl := dn_len hf
  have hs := rf_small hf
  constructor
  unfold L.speculate_Useful_B
  refine Decide_ok hb hf (cond_f (by decide) (checkRun_ok hw ?_))
  by_cases hc : rcode n last w = 0
  · obtain ⟨g1, g2, g3⟩ := rcode_len hc
    have h2 := h2 hc
    rw [hc]
    refine cond_f (by decide) (Clone_ok (by omega) ?_)
    show L.slices_DeleteFunc_h36 w (i64 (((dn n l).1.length : Int) + ((dn n l).2.length : Int))) _
    rw [i64_id (by omega) (by omega)]
    refine Delete_ok (by omega) fun k t ht => ?_
    unfold usf at h2
    by_cases hd : last ≥ ((dn n l).1.length : Int) + (dn n l).2.length
    · rw [decide_eq_true hd] at h2
      refine cond_t (decide_eq_true hd) ?_
      rw [ht]
      exact Equal_ok (by unfold big; have := upto_len (((dn n l).1.length : Int) + (dn n l).2.length) w; omega) h2
    · rw [decide_eq_false hd] at h2
      exact cond_f (decide_eq_false hd) h2
  · exact cond_t (by simpa using hc) (h1 hc)

end Sp
end Go.Proofs.Ytjlejiefkmimiaa

/-
  Speculation: the next run, useful runs, and the law of results, given the example. Conditions: none.
-/
import Derived.Test.YtjlejiefkmimiaaSpD
set_option linter.unusedVariables false
namespace Go.Proofs.Ytjlejiefkmimiaa
open Eng
namespace Sp

theorem Clone_ok {s : List Int} (hl : s.length ≤ 1000) {K : List Int → Prop} (hK : K s) : L.slices_Clone_i2 s K := by
  constructor
  intro b hb
  cases b with
  | false => exact ⟨fits_of (by simpa using hl), by simpa using hK⟩
  | true =>
    have : s = [] := by
      cases s with
      | nil => rfl
      | cons x r => exact absurd (hb (by simp)) (by simp)
    subst this
    exact hK

/-- What is decided of the results. -/
def dn (n : Int) (l : List T) : List Int × List Int := dc l n.toNat 0 [] []

theorem dn_len {n : Int} {l : List T} (h : rf n l = (0, 0)) : ((dn n l).1.length : Int) + (dn n l).2.length ≤ 8 := by
  have := dc_len l n.toNat 0 [] []
  have h2 := rf_small h
  unfold dn
  simp only [List.length_nil] at this
  omega

theorem Next_ok {n : Int} {l : List T} (hb : bigs l) (hf : rf n l = (0, 0)) {K : Int → List Int → Int → Int → Prop} (h1 : ((dn n l).1.length : Int) + (dn n l).2.length = n → K 0 [] 6 (-3)) (h2 : ((dn n l).1.length : Int) + (dn n l).2.length ≠ n → K (((dn n l).1.length : Int) + (dn n l).2.length) (dn n l).1 0 0) : L.speculate_Next n l K := by
  have hl := dn_len hf
  constructor
  unfold L.speculate_Next_B
  refine Decide_ok hb hf ?_
  show bif (!((0 == 0) && ((0 == 0) && true))) then _ else (bif ((i64 (((dn n l).1.length : Int) + ((dn n l).2.length : Int))) == n) then K 0 [] 6 (-3) else K (i64 (((dn n l).1.length : Int) + ((dn n l).2.length : Int))) (dn n l).1 0 0)
  rw [i64_id (by omega) (by omega)]
  refine cond_f (by decide) ?_
  by_cases h : ((dn n l).1.length : Int) + (dn n l).2.length = n
  · exact cond_t (by simpa using h) (h1 h)
  · exact cond_f (by simpa using h) (h2 h)

theorem Next_bad {n : Int} {l : List T} (hb : bigs l) (hf : (rf n l).1 ≠ 0) {K : Int → List Int → Int → Int → Prop} (hK : K 0 [] (rf n l).1 (rf n l).2) : L.speculate_Next n l K := by
  constructor
  unfold L.speculate_Next_B
  exact Decide_bad hb hf (cond_t (by simp [hf]) ⟨hK, hK⟩)

theorem Useful_bad {n : Int} {l : List T} {last : Int} {w : List Int} (hb : bigs l) (hf : (rf n l).1 ≠ 0) {K : Bool → Int → Int → Prop} (hK : K false (rf n l).1 (rf n l).2) : L.speculate_Useful n l last w K := by
  constructor
  unfold L.speculate_Useful_B
  exact Decide_bad hb hf (cond_t (by simp [hf]) hK)

/-- Whether a run is useful. -/
def usf (n : Int) (l : List T) (last : Int) (w : List Int) : Bool :=
  bif decide (last ≥ ((dn n l).1.length : Int) + (dn n l).2.length) then decide (upto (((dn n l).1.length : Int) + (dn n l).2.length) w = (dn n l).1) else false

theorem Useful_ok {n : Int} {l : List T} {last : Int} {w : List Int} (hb : bigs l) (hw : big w.length) (hf : rf n l = (0, 0)) {K : Bool → Int → Int → Prop} (h1 : rcode n last w ≠ 0 → K false (rcode n last w) (-3)) (h2 : rcode n last w = 0 → K (usf n l last w) 0 0) : L.speculate_Useful n l last w K := by
  have hl := dn_len hf
  have hs := rf_small hf
  constructor
  unfold L.speculate_Useful_B
  refine Decide_ok hb hf (cond_f (by decide) (checkRun_ok hw ?_))
  by_cases hc : rcode n last w = 0
  · obtain ⟨g1, g2, g3⟩ := rcode_len hc
    have h2 := h2 hc
    rw [hc]
    refine cond_f (by decide) (Clone_ok (by omega) ?_)
    show L.slices_DeleteFunc_h28 w (i64 (((dn n l).1.length : Int) + ((dn n l).2.length : Int))) _
    rw [i64_id (by omega) (by omega)]
    refine Delete_ok (by omega) fun k t ht => ?_
    unfold usf at h2
    by_cases hd : last ≥ ((dn n l).1.length : Int) + (dn n l).2.length
    · rw [decide_eq_true hd] at h2
      refine cond_t (decide_eq_true hd) ?_
      rw [ht]
      exact Equal_ok (by unfold big; have := upto_len (((dn n l).1.length : Int) + (dn n l).2.length) w; omega) h2
    · rw [decide_eq_false hd] at h2
      exact cond_f (decide_eq_false hd) h2
  · exact cond_t (by simpa using hc) (h1 hc)

theorem J2_ok {n : Int} {l : List T} {last : Int} {w : List Int} (hw : big w.length) (hf : rf n l = (0, 0)) {K : Bool → Prop} (hK : K true) {u : Bool} {c i : Int} (h1 : rcode n last w ≠ 0 → u = false ∧ c = rcode n last w ∧ i = -3) (h2 : rcode n last w = 0 → u = usf n l last w ∧ c = 0 ∧ i = 0) :
    L.law8_SpeculateResultsMatchSpec_J2 n u (dn n l).1 (((dn n l).1.length : Int) + (dn n l).2.length) last w c i K := by
  have hk : ∀ b, b = true → K b := fun b h => h ▸ hK
  have hl := dn_len hf
  have hs := rf_small hf
  constructor
  unfold L.law8_SpeculateResultsMatchSpec_J2_B
  refine RunCode_ok hw ?_
  by_cases hc : rcode n last w = 0
  · obtain ⟨rfl, rfl, rfl⟩ := h2 hc
    obtain ⟨g1, g2, g3⟩ := rcode_len hc
    rw [hc]
    refine cond_f (by decide) (cond_t (by decide) ?_)
    unfold usf
    by_cases hd : last ≥ ((dn n l).1.length : Int) + (dn n l).2.length
    · rw [decide_eq_true hd]
      refine cond_t rfl (Upto_ok (by omega) (EqualInts_ok (by unfold big; have := upto_len (((dn n l).1.length : Int) + (dn n l).2.length) w; omega) (hk _ ?_)))
      simp
    · rw [decide_eq_false hd]
      exact cond_f rfl (hk _ (by simp))
  · obtain ⟨rfl, rfl, rfl⟩ := h1 hc
    exact cond_t (by simpa using hc) (RunCode_ok hw (Fault_ok (hk _ (by simp))))

theorem J1_ok {n : Int} {l : List T} {last : Int} {w : List Int} (hw : big w.length) (hf : rf n l = (0, 0)) {K : Bool → Prop} (hK : K true) {u : Bool} {c i : Int} (h1 : rcode n last w ≠ 0 → u = false ∧ c = rcode n last w ∧ i = -3) (h2 : rcode n last w = 0 → u = usf n l last w ∧ c = 0 ∧ i = 0) {x e e1 : Int} {m : List Int}
    (g1 : ((dn n l).1.length : Int) + (dn n l).2.length = n → x = 0 ∧ m = [] ∧ e = 6 ∧ e1 = -3) (g2 : ((dn n l).1.length : Int) + (dn n l).2.length ≠ n → x = ((dn n l).1.length : Int) + (dn n l).2.length ∧ m = (dn n l).1 ∧ e = 0 ∧ e1 = 0) :
    L.law8_SpeculateResultsMatchSpec_J1 n u (dn n l).1 (dn n l).2 last w m x e e1 c i 0 K := by
  have hl := dn_len hf
  have hJ := J2_ok (K := K) hw hf hK h1 h2
  constructor
  unfold L.law8_SpeculateResultsMatchSpec_J1_B
  rw [i64_id (by omega) (by omega)]
  by_cases h : ((dn n l).1.length : Int) + (dn n l).2.length = n
  · obtain ⟨rfl, rfl, rfl, rfl⟩ := g1 h
    exact cond_t (by simpa using h) (Fault_ok (cond_t rfl (EqualRuns_ok (by unfold big; simp) ⟨cond_f rfl hJ⟩)))
  · obtain ⟨rfl, rfl, rfl, rfl⟩ := g2 h
    refine cond_f (by simpa using h) (cond_f (by decide) (EqualRuns_ok (by unfold big; omega) ⟨cond_f ?_ hJ⟩))
    simp [eqr]

theorem results_true (hex : ∀ K : Bool → Prop, K true → L.law8_speculateExample K) {n : Int} {l : List T} {last : Int} {w : List Int} (hb : bigs l) (hw : big w.length) (K : Bool → Prop) (hK : K true) : L.law8_SpeculateResultsMatchSpec n l last w K := by
  have hk : ∀ b, b = true → K b := fun b h => h ▸ hK
  constructor
  unfold L.law8_SpeculateResultsMatchSpec_B
  rcases rf_cases n l with hf | hf
  · have hl := dn_len hf
    have key : ∀ (x : Int) (m : List Int) (e e1 : Int) (u : Bool) (c i : Int), (((dn n l).1.length : Int) + (dn n l).2.length = n → x = 0 ∧ m = [] ∧ e = 6 ∧ e1 = -3) → (((dn n l).1.length : Int) + (dn n l).2.length ≠ n → x = ((dn n l).1.length : Int) + (dn n l).2.length ∧ m = (dn n l).1 ∧ e = 0 ∧ e1 = 0) → (rcode n last w ≠ 0 → u = false ∧ c = rcode n last w ∧ i = -3) → (rcode n last w = 0 → u = usf n l last w ∧ c = 0 ∧ i = 0) →
        L.law8_speculateExample (fun r3 => (bif (!r3) then K false else L.ref8_ResultsFault n l (fun rCode3 rIndex3 => (bif (rCode3 != 0) then (bif (bif (bif (bif (bif ((0 == rCode3) && ((0 == rIndex3) && true)) then ((e == rCode3) && ((e1 == rIndex3) && true)) else false) then ((c == rCode3) && ((i == rIndex3) && true)) else false) then (((dn n l).1.length : Int) == 0) else false) then (((dn n l).2.length : Int) == 0) else false) then L.ref8_EqualRuns x m 0 ([] : List Int) (fun r4 => K (bif (bif true then r4 else false) then (!u) else false)) else K (bif false then (!u) else false)) else L.ref8_Decide_h29 n l ([] : List Int) ([] : List Int) (fun r5 r6 => (bif ((0 : Int) != 0) then L.law8_SpeculateResultsMatchSpec_J5 true (L.law8_SpeculateResultsMatchSpec_J1 n u r5 r6 last w m x e e1 c i 0 K) K else L.ref8_EqualInts (dn n l).1 r5 (fun r8 => (bif (bif false then true else (!r8)) then L.law8_SpeculateResultsMatchSpec_J5 true (L.law8_SpeculateResultsMatchSpec_J1 n u r5 r6 last w m x e e1 c i 0 K) K else L.ref8_EqualInts (dn n l).2 r6 (fun r9 => L.law8_SpeculateResultsMatchSpec_J5 (bif false then true else (!r9)) (L.law8_SpeculateResultsMatchSpec_J1 n u r5 r6 last w m x e e1 c i 0 K) K))))))))) := by
      intro x m e e1 u c i g1 g2 h1 h2
      refine hex _ (cond_f rfl (ResultsFault_ok hb ?_))
      rw [hf]
      refine cond_f (by decide) (RDecide_ok hb hf ?_)
      refine cond_f (by decide) (EqualInts_ok (by unfold big; omega) (cond_f (by simp [dn]) (EqualInts_ok (by unfold big; omega) ⟨cond_f (by simp [dn]) ?_⟩)))
      exact J1_ok hw hf hK h1 h2 g1 g2
    refine Decide_ok hb hf (Next_ok hb hf (fun h => ?_) (fun h => ?_)) <;> refine Useful_ok hb hw hf (fun hc => ?_) (fun hc => ?_)
    · exact key _ _ _ _ _ _ _ (fun _ => ⟨rfl, rfl, rfl, rfl⟩) (fun hh => absurd h hh) (fun _ => ⟨rfl, rfl, rfl⟩) (fun hh => absurd hh hc)
    · exact key _ _ _ _ _ _ _ (fun _ => ⟨rfl, rfl, rfl, rfl⟩) (fun hh => absurd h hh) (fun hh => absurd hc hh) (fun _ => ⟨rfl, rfl, rfl⟩)
    · exact key _ _ _ _ _ _ _ (fun hh => absurd hh h) (fun _ => ⟨rfl, rfl, rfl, rfl⟩) (fun _ => ⟨rfl, rfl, rfl⟩) (fun hh => absurd hh hc)
    · exact key _ _ _ _ _ _ _ (fun hh => absurd hh h) (fun _ => ⟨rfl, rfl, rfl, rfl⟩) (fun hh => absurd hc hh) (fun _ => ⟨rfl, rfl, rfl⟩)
  · refine Decide_bad hb hf (Next_bad hb hf (Useful_bad hb hf (hex _ (cond_f rfl (ResultsFault_ok hb (cond_t (by simpa using hf) (cond_t ?_ (EqualRuns_ok (by unfold big; simp) (hk _ ?_)))))))))
    · simp
    · simp [eqr]

end Sp
end Go.Proofs.Ytjlejiefkmimiaa

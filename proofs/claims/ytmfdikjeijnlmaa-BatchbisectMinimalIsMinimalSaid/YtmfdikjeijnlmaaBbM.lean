/-
  The search for culprits: failures are monotone. Conditions: none.
-/
import Derived.Test.YtmfdikjeijnlmaaBbG
set_option linter.unusedVariables false
set_option maxRecDepth 100000
namespace Go.Proofs.Ytmfdikjeijnlmaa
open Eng
namespace Bb

/-- The answer of Fails. -/
def fl (n : Int) (cs : List (List Int)) (set : List Int) : Bool × Int × Int :=
  if vf n cs = (0, 0) then (if lc n (-1) set = 0 then (fails cs set, 0, 0) else (false, lc n (-1) set, -2)) else (false, vf n cs)

theorem Fails_any {n : Int} {cs : List (List Int)} {set : List Int} (hs : ∀ s, s ∈ cs → big s.length) (hc : big set.length) {K : Bool → Int → Int → Prop} (hK : K (fl n cs set).1 (fl n cs set).2.1 (fl n cs set).2.2) : L.batchbisect_Fails n cs set K := by
  unfold fl at hK
  by_cases hv : vf n cs = (0, 0)
  · rw [if_pos hv] at hK
    by_cases hl : lc n (-1) set = 0
    · rw [if_pos hl] at hK; exact Fails_ok hs hc hv hl hK
    · rw [if_neg hl] at hK; exact Fails_code hs hc hv hl hK
  · rw [if_neg hv] at hK; exact Fails_bad hs hv hK

theorem fl_code {n : Int} {cs : List (List Int)} {set : List Int} : (fl n cs set).2.1 = 0 → vf n cs = (0, 0) ∧ lc n (-1) set = 0 ∧ fl n cs set = (fails cs set, 0, 0) := by
  unfold fl
  by_cases hv : vf n cs = (0, 0)
  · rw [if_pos hv]
    by_cases hl : lc n (-1) set = 0
    · rw [if_pos hl]; exact fun _ => ⟨hv, hl, rfl⟩
    · rw [if_neg hl]; exact fun h => absurd h hl
  · rw [if_neg hv]; exact fun h => absurd (vf_zero h) hv

theorem both_loop {a b : List Int} (ha : big a.length) (hb : big b.length) {K : List Int → Prop} (hK : K (sel (fun i => has a i || has b i) 16)) : ∀ (fu i : Nat), i ≤ 16 → 16 - i < fu →
    L.law8_BatchbisectFailuresAreMonotone_L1_R a b fu i (sel (fun i => has a i || has b i) i) K
  | 0, i, _, h => by omega
  | fu + 1, i, hi, h => by
    show L.law8_BatchbisectFailuresAreMonotone_L1_b a b i _ _ _
    unfold L.law8_BatchbisectFailuresAreMonotone_L1_b
    have hlen := sel_len (q := fun i => has a i || has b i) i
    rcases Nat.lt_or_ge i 16 with g | g
    · have ih := both_loop ha hb hK fu (i + 1) (by omega) (by omega)
      rw [sel] at ih
      rw [i64_id (by omega) (by omega)]
      refine cond_t (by simp; omega) (Has_ok ha ?_)
      cases e : has a i with
      | true => rw [e] at ih; exact cond_t rfl ⟨fits_of (by simp; omega), ih⟩
      | false =>
        rw [e] at ih
        refine cond_f rfl (Has_ok hb ?_)
        cases e3 : has b i with
        | true => rw [e3] at ih; exact cond_t rfl ⟨fits_of (by simp; omega), ih⟩
        | false => rw [e3] at ih; exact cond_f rfl ih
    · obtain rfl : i = 16 := by omega
      exact cond_f (by simp) hK

theorem mono_true (n : Int) (cs more : List (List Int)) (a b : List Int) (hs : ∀ s, s ∈ cs → big s.length) (hm : ∀ s, s ∈ more → big s.length) (ha : big a.length) (hb : big b.length) (hf : cs.length + more.length ≤ 1073741824)
    (K : Bool → Prop) (hK : K true) : L.law8_BatchbisectFailuresAreMonotone n cs more a b K := by
  refine ⟨⟨⟨17, both_loop ha hb ?_ 17 0 (by omega) (by omega)⟩⟩⟩
  have hlen := sel_len (q := fun i => has a i || has b i) 16
  refine Fails_any hs ha (Fails_any hs (by unfold big; omega) ⟨by unfold fits; simp; omega, by unfold fits; simp; omega, Fails_any ?_ ha (example_ok (cond_f rfl ?_))⟩)
  · intro s h
    simp only [List.nil_append, List.mem_append] at h
    exact h.elim (hs s) (hm s)
  · refine Eq.mpr (congrArg K ?_) hK
    rw [List.nil_append]
    by_cases h1 : (fl n cs a).2.1 = 0
    · obtain ⟨v1, l1, e1⟩ := fl_code h1
      rw [e1]
      cases hx : fails cs a with
      | false => rfl
      | true =>
        have hy : (bif ((fl n cs (sel (fun i => has a i || has b i) 16)).2.1 != 0) then true else (fl n cs (sel (fun i => has a i || has b i) 16)).1) = true := by
          by_cases h2 : (fl n cs (sel (fun i => has a i || has b i) 16)).2.1 = 0
          · obtain ⟨v2, l2, e2⟩ := fl_code h2
            rw [e2]
            refine fails_mono (fun x hx => ?_) hx
            have hn := vf_len v1
            have := lc_mem l1 x hx
            exact mem_sel.mpr ⟨by omega, by simp [has, hx]⟩
          · rw [show ((fl n cs (sel (fun i => has a i || has b i) 16)).2.1 != 0) = true from by simpa using h2]; rfl
        have hz : (bif ((fl n (cs ++ more) a).2.1 != 0) then true else (fl n (cs ++ more) a).1) = true := by
          by_cases h2 : (fl n (cs ++ more) a).2.1 = 0
          · obtain ⟨v2, l2, e2⟩ := fl_code h2
            rw [e2]
            show fails (cs ++ more) a = true
            unfold fails at hx ⊢
            rw [List.any_append, hx]; rfl
          · rw [show ((fl n (cs ++ more) a).2.1 != 0) = true from by simpa using h2]; rfl
        rw [hy, hz]; rfl
    · rw [show ((fl n cs a).2.1 != 0) = true from by simpa using h1]; rfl

theorem bulkL_ge {α : Type} {f : α → Nat} (hf : ∀ x, 1 ≤ f x) : ∀ l : List α, l.length ≤ bulkL f l
  | [] => Nat.zero_le _
  | x :: r => by
    have h1 := bulkL_ge hf r
    have h2 := hf x
    show r.length + 1 ≤ f x + bulkL f r
    omega

end Bb

theorem BatchbisectFailuresAreMonotone_true (xs : ArgDen [(false, (.int .i64)), (false, (.slice (.slice (.int .i64)))), (false, (.slice (.slice (.int .i64)))), (false, (.slice (.int .i64))), (false, (.slice (.int .i64)))]) (hw : WfAll _ xs) (hb : bulkAll _ xs ≤ 1048576) (K : Bool → Prop) (hK : K true) :
    L.law8_BatchbisectFailuresAreMonotone xs.1 xs.2.1 xs.2.2.1 xs.2.2.2.1 xs.2.2.2.2.1 K := by
  have h1 : xs.2.1.length ≤ bulkL (bulk (.slice (.int .i64))) xs.2.1 := Bb.bulkL_ge (fun s => Nat.le_add_left 1 _) _
  have h2 : xs.2.2.1.length ≤ bulkL (bulk (.slice (.int .i64))) xs.2.2.1 := Bb.bulkL_ge (fun s => Nat.le_add_left 1 _) _
  have h3 : 1 + ((bulkL (bulk (.slice (.int .i64))) xs.2.1 + 1) + ((bulkL (bulk (.slice (.int .i64))) xs.2.2.1 + 1) + (bulk (.slice (.int .i64)) xs.2.2.2.1 + (bulk (.slice (.int .i64)) xs.2.2.2.2.1 + 0)))) ≤ 1048576 := hb
  exact Bb.mono_true _ _ _ _ _ (fun s hs => Bb.big_of (hw.2.1.2 s hs).1) (fun s hs => Bb.big_of (hw.2.2.1.2 s hs).1) (Bb.big_of hw.2.2.2.1.1) (Bb.big_of hw.2.2.2.2.1.1) (Nat.le_trans (Nat.add_le_add h1 h2) (by omega)) K hK
end Go.Proofs.Ytmfdikjeijnlmaa

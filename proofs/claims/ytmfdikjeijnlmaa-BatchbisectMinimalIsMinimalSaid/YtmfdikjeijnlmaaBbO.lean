/-
  The search for culprits: Minimal is minimal. Conditions: none.
-/
import Derived.Test.YtmfdikjeijnlmaaBbN
set_option linter.unusedVariables false
set_option maxRecDepth 100000
namespace Go.Proofs.Ytmfdikjeijnlmaa
open Eng
namespace Bb

theorem falling_len {c : Int} : ∀ {r : List Int} {n : Int}, r.Pairwise (· > ·) → (∀ k, k ∈ r → c ≤ k ∧ k < n) → c ≤ n → (r.length : Int) ≤ n - c
  | [], n, _, _, h => by simp; omega
  | a :: t, n, hp, hr, h => by
    have hq := List.pairwise_cons.mp hp
    have ha := hr a (by simp)
    have := falling_len (n := a) hq.2 (fun k hk => ⟨(hr k (by simp [hk])).1, hq.1 k hk⟩) ha.1
    simp only [List.length_cons]; omega

/-- What Minimal answers. -/
structure Found (cs : List (List Int)) (n : Int) (r m : List Int) : Prop where
  found : mm cs n 17 [] = some r
  len : r.length ≤ 16
  some_ : r.length ≠ 0
  eq : srt r = m
  mlen : m.length = r.length
  sorted : m.Pairwise (· < ·)
  range : ∀ k, k ∈ m → 0 ≤ k ∧ k < n
  fail : fails cs m = true
  pass : ∀ k, k ∈ m → fails cs (wo m k) = false

theorem found {n : Int} {cs : List (List Int)} (hv : vf n cs = (0, 0)) (hf : failsB cs n [] = true) : ∃ r, Found cs n r r.reverse := by
  have hn := vf_len hv
  have hg := good_of hv
  obtain ⟨r, c', e, h0, h1, hfail, hm⟩ := minimal_spec hn.1 hn.2.1 hf
  have hlen := falling_len hm.sorted hm.range h1
  rw [failsB0 hg] at hfail
  refine ⟨r, e, by omega, ?_, srt_falling hm.sorted, List.length_reverse, List.pairwise_reverse.mpr (hm.sorted.imp fun h => h), fun k hk => ?_, ?_, fun k hk => ?_⟩
  · intro hz
    rw [List.eq_nil_of_length_eq_zero hz, fails_nil hg] at hfail; cases hfail
  · have := hm.range k (List.mem_reverse.mp hk); omega
  · exact fails_mono (fun x hx => List.mem_reverse.mpr hx) hfail
  · have hp := hm.pass k (List.mem_reverse.mp hk)
    cases e2 : fails cs (wo r.reverse k) with
    | false => rfl
    | true =>
      rw [← failsB0 hg] at e2
      rw [failsB_mono h0 (fun x hx => ?_) e2] at hp
      · cases hp
      · have := mem_wo.mp hx
        exact .inr (mem_wo.mpr ⟨List.mem_reverse.mp this.1, this.2⟩)

theorem out_loop {n : Int} {cs : List (List Int)} {r m : List Int} (hs : ∀ s, s ∈ cs → big s.length) (hv : vf n cs = (0, 0)) (hF : Found cs n r m) {K : Bool → Prop} {Q : Prop} (hQ : Q) : ∀ (fu i : Nat), i ≤ m.length → m.length - i < fu →
    L.law8_BatchbisectMinimalIsMinimal_L1_R n cs m fu i Q K
  | 0, i, _, h => by omega
  | fu + 1, i, hi, h => by
    have hlen := hF.len
    have hml := hF.mlen
    show L.law8_BatchbisectMinimalIsMinimal_L1_b n cs m i _ _ _
    unfold L.law8_BatchbisectMinimalIsMinimal_L1_b
    rcases Nat.lt_or_ge i m.length with g | g
    · have hk := getD_mem (0 : Int) g
      have hwl : (wo m (m.getD i 0)).length ≤ m.length := List.length_filter_le _ _
      have hws : (wo m (m.getD i 0)).Pairwise (· < ·) := hF.sorted.filter _
      refine cond_t (by simp; omega) ⟨inB_of (by omega) (by omega), Without_ok (by omega) ?_⟩
      simp only [Int.toNat_natCast]
      refine Fails_ok hs (by unfold big; omega) hv (lc_of (fun k hk => by have := hF.range k (mem_wo.mp hk).1; omega) hws) ?_
      rw [hF.pass _ hk]
      refine cond_f rfl ?_
      rw [i64_id (by omega) (by omega)]
      exact out_loop hs hv hF hQ fu (i + 1) (by omega) (by omega)
    · exact cond_f (by simp; omega) hQ

theorem minimal_true (n : Int) (cs : List (List Int)) (hs : ∀ s, s ∈ cs → big s.length) (K : Bool → Prop) (hK : K true) : L.law8_BatchbisectMinimalIsMinimal n cs K := by
  constructor
  unfold L.law8_BatchbisectMinimalIsMinimal_B
  by_cases hv : vf n cs = (0, 0)
  · cases hf : failsB cs n [] with
    | false => exact Minimal_none hs hv hf (example_ok (cond_f rfl (cond_t rfl hK)))
    | true =>
      obtain ⟨r, hF⟩ := found hv hf
      have hlen := hF.len
      have hml := hF.mlen
      have hne := hF.some_
      refine Minimal_ok hs hv hf hF.found hF.some_ (by omega) ?_
      rw [hF.eq]
      generalize r.reverse = m at *
      refine example_ok (cond_f rfl (cond_f rfl (Fails_ok hs (by unfold big; omega) hv (lc_of (fun k hk => by have := hF.range k hk; omega) hF.sorted) ⟨⟨m.length + 1, out_loop hs hv hF ?_ _ 0 (by omega) (by omega)⟩⟩)))
      rw [hF.fail, decide_eq_true (p := ((m.length : Int) > 0)) (by omega)]
      exact hK
  · exact Minimal_bad hs hv (example_ok (cond_f rfl (cond_t (vf_code hv) hK)))

end Bb

theorem BatchbisectMinimalIsMinimal_true (xs : ArgDen [(false, (.int .i64)), (false, (.slice (.slice (.int .i64))))]) (hw : WfAll _ xs) (K : Bool → Prop) (hK : K true) : L.law8_BatchbisectMinimalIsMinimal xs.1 xs.2.1 K :=
  Bb.minimal_true _ _ (fun s hs => Bb.big_of (hw.2.1.2 s hs).1) K hK
end Go.Proofs.Ytmfdikjeijnlmaa

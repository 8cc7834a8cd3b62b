/-
  The search for culprits: Greedy is maximal. Conditions: none.
-/
import Derived.Test.YtmfdikjeijnlmaaBbA
set_option linter.unusedVariables false
set_option maxRecDepth 100000
namespace Go.Proofs.Ytmfdikjeijnlmaa
open Eng
namespace Bb

theorem fails_mono {cs : List (List Int)} {a b : List Int} (h : ∀ x, x ∈ a → x ∈ b) (ha : fails cs a = true) : fails cs b = true := by
  obtain ⟨s, hs, hk⟩ := fails_iff.mp ha
  exact fails_iff.mpr ⟨s, hs, fun k hk' => h k (hk k hk')⟩

/-- What holds of the accepted changes below a number. -/
structure Acc (cs : List (List Int)) (c : Int) (out : List Int) : Prop where
  sorted : out.Pairwise (· < ·)
  range : ∀ k, k ∈ out → 0 ≤ k ∧ k < c
  pass : fails cs out = false
  full : ∀ k, 0 ≤ k → k < c → k ∉ out → ∀ m : List Int, (∀ x, x ∈ out → x ∈ m) → k ∈ m → fails cs m = true

theorem gr_acc {n : Int} {cs : List (List Int)} (hg : good n cs) : ∀ (fu : Nat) (c : Int) (out : List Int), 0 ≤ c → c ≤ n → n - c ≤ fu → Acc cs c out → Acc cs n (gr cs n fu c out)
  | 0, c, out, h0, h1, h2, h => by
    rw [gr, show n = c from by omega]; exact h
  | fu + 1, c, out, h0, h1, h2, h => by
    rw [gr]
    by_cases g : c < n
    · rw [if_pos g, failsB0 hg]
      cases e : fails cs (out ++ [c]) with
      | true =>
        refine gr_acc hg fu (c + 1) out (by omega) (by omega) (by omega) ⟨h.sorted, fun k hk => by have := h.range k hk; omega, h.pass, fun k hk0 hk1 hk m hm hkm => ?_⟩
        by_cases e2 : k = c
        · subst e2
          refine fails_mono (fun x hx => ?_) e
          rcases List.mem_append.mp hx with hx | hx
          · exact hm x hx
          · rw [List.mem_singleton] at hx; rw [hx]; exact hkm
        · exact h.full k hk0 (by omega) hk m hm hkm
      | false =>
        refine gr_acc hg fu (c + 1) (out ++ [c]) (by omega) (by omega) (by omega) ⟨?_, fun k hk => ?_, e, fun k hk0 hk1 hk m hm hkm => ?_⟩
        · rw [List.pairwise_append]
          refine ⟨h.sorted, List.pairwise_singleton _ _, fun a ha b hb => ?_⟩
          rw [List.mem_singleton] at hb
          have := h.range a ha; omega
        · rcases List.mem_append.mp hk with hk | hk
          · have := h.range k hk; omega
          · rw [List.mem_singleton] at hk; omega
        · have hkc : k ≠ c := fun e2 => hk (by rw [e2]; simp)
          exact h.full k hk0 (by omega) (fun hk2 => hk (by simp [hk2])) m (fun x hx => hm x (by simp [hx])) hkm
    · rw [if_neg g, show n = c from by omega]; exact h

theorem greedy_acc {n : Int} {cs : List (List Int)} (hn : 0 ≤ n ∧ n ≤ 16) (hg : good n cs) : Acc cs n (gr cs n 16 0 []) :=
  gr_acc hg 16 0 [] (by omega) (by omega) (by omega) ⟨List.Pairwise.nil, fun k hk => by simp at hk, fails_nil hg, fun k h0 h1 => by omega⟩

/-- The numbers that a test takes. -/
def sel (q : Int → Bool) : Nat → List Int
  | 0 => []
  | n + 1 => bif q n then sel q n ++ [(n : Int)] else sel q n
theorem mem_sel {q : Int → Bool} {k : Int} : ∀ {n : Nat}, k ∈ sel q n ↔ (0 ≤ k ∧ k < n) ∧ q k = true
  | 0 => ⟨fun h => by simp [sel] at h, fun h => by omega⟩
  | n + 1 => by
    rw [sel]
    cases e : q n with
    | true =>
      simp only [cond_true]
      rw [List.mem_append, mem_sel (n := n), List.mem_singleton]
      constructor
      · rintro (h | h)
        · exact ⟨by omega, h.2⟩
        · subst h; exact ⟨by omega, e⟩
      · rintro ⟨h1, h2⟩
        by_cases h3 : k = n
        · exact .inr h3
        · exact .inl ⟨by omega, h2⟩
    | false =>
      simp only [cond_false]
      rw [mem_sel (n := n)]
      constructor
      · rintro ⟨h1, h2⟩; exact ⟨by omega, h2⟩
      · rintro ⟨h1, h2⟩
        by_cases h3 : k = n
        · rw [h3, e] at h2; cases h2
        · exact ⟨by omega, h2⟩
theorem sel_len {q : Int → Bool} : ∀ n, (sel q n).length ≤ n
  | 0 => by simp [sel]
  | n + 1 => by
    have := sel_len (q := q) n
    rw [sel]
    cases q n with
    | true => simp; omega
    | false => simp; omega
theorem sel_sorted {q : Int → Bool} : ∀ n, (sel q n).Pairwise (· < ·)
  | 0 => List.Pairwise.nil
  | n + 1 => by
    rw [sel]
    cases q n with
    | true =>
      simp only [cond_true]
      rw [List.pairwise_append]
      refine ⟨sel_sorted n, List.pairwise_singleton _ _, fun a ha b hb => ?_⟩
      have := mem_sel.mp ha
      rw [List.mem_singleton] at hb
      omega
    | false => exact sel_sorted n

theorem more_loop {n : Nat} {c : Int} {l : List Int} (hn : n ≤ 16) (hl : big l.length) {K : List Int → Prop} (hK : K (sel (fun i => decide (i = c) || has l i) n)) : ∀ (fu i : Nat), i ≤ n → n - i < fu →
    L.law8_BatchbisectGreedyIsMaximal_L2_R n c l fu i (sel (fun i => decide (i = c) || has l i) i) K
  | 0, i, _, h => by omega
  | fu + 1, i, hi, h => by
    show L.law8_BatchbisectGreedyIsMaximal_L2_b n c l i _ _ _
    unfold L.law8_BatchbisectGreedyIsMaximal_L2_b
    have hlen := sel_len (q := fun i => decide (i = c) || has l i) i
    rcases Nat.lt_or_ge i n with g | g
    · have ih := more_loop hn hl hK fu (i + 1) (by omega) (by omega)
      rw [sel] at ih
      rw [i64_id (by omega) (by omega)]
      refine cond_t (by simp; omega) ?_
      by_cases e : (i : Int) = c
      · have e2 : (decide ((i : Int) = c) || has l i) = true := by rw [decide_eq_true e]; rfl
        rw [e2] at ih
        exact cond_t (by simpa using e) ⟨fits_of (by simp; omega), ih⟩
      · have e2 : (decide ((i : Int) = c) || has l i) = has l i := by rw [decide_eq_false e]; rfl
        rw [e2] at ih
        refine cond_f (by simpa using e) (Has_ok hl ?_)
        cases e3 : has l i with
        | true => rw [e3] at ih; exact cond_t rfl ⟨fits_of (by simp; omega), ih⟩
        | false => rw [e3] at ih; exact cond_f rfl ih
    · obtain rfl : i = n := by omega
      exact cond_f (by simp) hK

theorem each_loop {n : Nat} {cs : List (List Int)} {l : List Int} (hs : ∀ s, s ∈ cs → big s.length) (hv : vf n cs = (0, 0)) (hl : big l.length) (ha : Acc cs n l) {K : Bool → Prop} {Q : Prop} (hQ : Q) : ∀ (fu i : Nat), i ≤ n → n - i < fu →
    L.law8_BatchbisectGreedyIsMaximal_L1_R n cs l fu i Q K
  | 0, i, _, h => by omega
  | fu + 1, i, hi, h => by
    have hn := vf_len hv
    show L.law8_BatchbisectGreedyIsMaximal_L1_b n cs l i _ _ _
    unfold L.law8_BatchbisectGreedyIsMaximal_L1_b
    rcases Nat.lt_or_ge i n with g | g
    · have ih := each_loop hs hv hl ha (K := K) hQ fu (i + 1) (by omega) (by omega)
      rw [i64_id (by omega) (by omega)]
      refine cond_t (by simp; omega) (Has_ok hl ?_)
      cases e : has l i with
      | true => exact cond_t rfl ih
      | false =>
        refine cond_f rfl ⟨⟨n + 1, more_loop (n := n) (by omega) hl ?_ (n + 1) 0 (by omega) (by omega)⟩⟩
        have hlen := sel_len (q := fun k => decide (k = (i : Int)) || has l k) n
        have hmem : ∀ k, k ∈ sel (fun k => decide (k = (i : Int)) || has l k) n ↔ (0 ≤ k ∧ k < n) ∧ (k = i ∨ k ∈ l) := by
          intro k; rw [mem_sel]; simp [has]
        have hf : fails cs (sel (fun k => decide (k = (i : Int)) || has l k) n) = true := by
          refine ha.full i (by omega) (by omega) (of_decide_eq_false e) _ (fun x hx => ?_) ?_
          · exact (hmem x).mpr ⟨ha.range x hx, .inr hx⟩
          · exact (hmem i).mpr ⟨by omega, .inl rfl⟩
        refine Fails_ok hs (by unfold big; omega) hv (lc_of (fun k hk => by have := (hmem k).mp hk; omega) (sel_sorted n)) ?_
        rw [hf]
        exact cond_f rfl ih
    · obtain rfl : i = n := by omega
      exact cond_f (by simp) hQ

theorem gr_len {n : Int} {cs : List (List Int)} : ∀ (fu : Nat) (c : Int) (out : List Int), (gr cs n fu c out).length ≤ out.length + fu
  | 0, c, out => by rw [gr]; omega
  | fu + 1, c, out => by
    rw [gr]
    split
    · cases failsB cs 0 (out ++ [c]) with
      | true => have := gr_len (n := n) (cs := cs) fu (c + 1) out; simp only [cond_true]; omega
      | false => have := gr_len (n := n) (cs := cs) fu (c + 1) (out ++ [c]); simp only [cond_false]; simp at this; omega
    · omega

theorem vf_code {n : Int} {cs : List (List Int)} (hv : vf n cs ≠ (0, 0)) : ((vf n cs).1 != 0) = true := by
  have : (vf n cs).1 ≠ 0 := fun h => hv (vf_zero h)
  simpa using this

theorem maximal_true (n : Int) (cs : List (List Int)) (hs : ∀ s, s ∈ cs → big s.length) (K : Bool → Prop) (hK : K true) : L.law8_BatchbisectGreedyIsMaximal n cs K := by
  constructor
  unfold L.law8_BatchbisectGreedyIsMaximal_B
  by_cases hv : vf n cs = (0, 0)
  · have hn := vf_len hv
    have hg := good_of hv
    have ha := greedy_acc ⟨hn.1, hn.2.1⟩ hg
    have hlen := gr_len (n := n) (cs := cs) 16 0 []
    refine Greedy_ok hs hv (example_ok (cond_f rfl (cond_f rfl ?_)))
    generalize gr cs n 16 0 [] = l at *
    simp only [List.length_nil] at hlen
    refine Fails_ok hs (by unfold big; omega) hv (lc_of (fun k hk => by have := ha.range k hk; omega) ha.sorted) ?_
    rw [ha.pass]
    refine cond_f rfl ?_
    obtain ⟨m, rfl⟩ : ∃ m : Nat, n = m := ⟨n.toNat, by omega⟩
    exact ⟨⟨m + 1, each_loop hs hv (by unfold big; omega) ha hK (m + 1) 0 (by omega) (by omega)⟩⟩
  · exact Greedy_bad hs hv (example_ok (cond_f rfl (cond_t (vf_code hv) hK)))

end Bb

theorem BatchbisectGreedyIsMaximal_true (xs : ArgDen [(false, (.int .i64)), (false, (.slice (.slice (.int .i64))))]) (hw : WfAll _ xs) (K : Bool → Prop) (hK : K true) : L.law8_BatchbisectGreedyIsMaximal xs.1 xs.2.1 K :=
  Bb.maximal_true _ _ (fun s hs => Bb.big_of (hw.2.1.2 s hs).1) K hK
end Go.Proofs.Ytmfdikjeijnlmaa

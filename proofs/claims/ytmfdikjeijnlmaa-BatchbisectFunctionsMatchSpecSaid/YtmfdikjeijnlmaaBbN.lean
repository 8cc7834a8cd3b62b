/-
  The search for culprits: what Minimal finds, before it is sorted. Conditions: none.
-/
import Derived.Test.YtmfdikjeijnlmaaBbM
set_option linter.unusedVariables false
set_option maxRecDepth 100000
namespace Go.Proofs.Ytmfdikjeijnlmaa
open Eng
namespace Bb

theorem failsB_mono {cs : List (List Int)} {m n : Int} {a b : List Int} (hn : m ≤ n) (h : ∀ x, x ∈ a → x < n ∨ x ∈ b) (ha : failsB cs m a = true) : failsB cs n b = true := by
  obtain ⟨s, hs, hk⟩ := failsB_iff.mp ha
  exact failsB_iff.mpr ⟨s, hs, fun k hk' => (hk k hk').elim (fun g => .inl (by omega)) (fun g => h k g)⟩

theorem ms_spec {cs : List (List Int)} {n p : Int} {out : List Int} (hp : failsB cs p out = true) (hpn : p ≤ n) : ∀ (fu : Nat) (c : Int), 0 ≤ c → c < p → n - c ≤ fu → failsB cs c out = false →
    ∃ d, ms cs n fu c out = out ++ [d] ∧ c ≤ d ∧ d < p ∧ failsB cs (d + 1) out = true ∧ failsB cs d out = false
  | 0, c, h0, h1, h2, hf => by omega
  | fu + 1, c, h0, h1, h2, hf => by
    rw [ms, if_pos (by omega)]
    cases e : failsB cs (c + 1) out with
    | true => exact ⟨c, rfl, Int.le_refl _, h1, e, hf⟩
    | false =>
      have hne : c + 1 ≠ p := fun h => by rw [h, hp] at e; cases e
      obtain ⟨d, e1, e2, e3, e4, e5⟩ := ms_spec hp hpn fu (c + 1) (by omega) (by omega) (by omega) e
      exact ⟨d, e1, by omega, e3, e4, e5⟩

/-- The list without a number. -/
def wo (l : List Int) (k : Int) : List Int := l.filter fun x => x != k
theorem mem_wo {l : List Int} {k x : Int} : x ∈ wo l k ↔ x ∈ l ∧ x ≠ k := by simp [wo]

/-- What holds of the members found down to a number. -/
structure Min (cs : List (List Int)) (n c : Int) (out : List Int) : Prop where
  sorted : out.Pairwise (· > ·)
  range : ∀ k, k ∈ out → c ≤ k ∧ k < n
  fail : failsB cs c out = true
  pass : ∀ k, k ∈ out → failsB cs c (wo out k) = false

theorem Min.step {cs : List (List Int)} {n c d : Int} {out : List Int} (h : Min cs n c out) (hcn : c ≤ n) (hd : d < c) (h1 : failsB cs (d + 1) out = true) (h2 : failsB cs d out = false) : Min cs n d (out ++ [d]) where
  sorted := by
    rw [List.pairwise_append]
    refine ⟨h.sorted, List.pairwise_singleton _ _, fun a ha b hb => ?_⟩
    rw [List.mem_singleton] at hb
    have := h.range a ha; omega
  range := fun k hk => by
    rcases List.mem_append.mp hk with hk | hk
    · have := h.range k hk; omega
    · rw [List.mem_singleton] at hk; omega
  fail := by
    obtain ⟨s, hs, hk⟩ := failsB_iff.mp h1
    refine failsB_iff.mpr ⟨s, hs, fun k hk' => ?_⟩
    rcases hk k hk' with g | g
    · by_cases e : k = d
      · exact .inr (by simp [e])
      · exact .inl (by omega)
    · exact .inr (by simp [g])
  pass := fun k hk => by
    cases e : failsB cs d (wo (out ++ [d]) k) with
    | false => rfl
    | true =>
      rcases List.mem_append.mp hk with hk | hk
      · have := h.pass k hk
        rw [failsB_mono (m := d) (n := c) (by omega) (fun x hx => ?_) e] at this
        · cases this
        · have := mem_wo.mp hx
          rcases List.mem_append.mp this.1 with g | g
          · exact .inr (mem_wo.mpr ⟨g, this.2⟩)
          · rw [List.mem_singleton] at g; exact .inl (by omega)
      · rw [List.mem_singleton] at hk
        rw [failsB_mono (m := d) (n := d) (Int.le_refl _) (fun x hx => ?_) e] at h2
        · cases h2
        · have := mem_wo.mp hx
          rcases List.mem_append.mp this.1 with g | g
          · exact .inr g
          · rw [List.mem_singleton] at g; exact absurd (by omega) this.2

theorem mm_spec {cs : List (List Int)} {n : Int} (hn : n ≤ 16) : ∀ (fu : Nat) (c : Int) (out : List Int), 0 ≤ c → c ≤ n → c < fu → Min cs n c out → ∃ r c', mm cs n fu out = some r ∧ 0 ≤ c' ∧ c' ≤ n ∧ failsB cs 0 r = true ∧ Min cs n c' r
  | 0, c, out, h0, h1, h2, h => by omega
  | fu + 1, c, out, h0, h1, h2, h => by
    rw [mm]
    cases e : failsB cs 0 out with
    | true => exact ⟨out, c, rfl, h0, h1, e, h⟩
    | false =>
      have hc : 0 < c := by
        rcases Int.lt_or_le 0 c with g | g
        · exact g
        · have := h.fail; rw [show c = 0 from by omega, e] at this; cases this
      obtain ⟨d, e1, e2, e3, e4, e5⟩ := ms_spec h.fail h1 16 0 (by omega) hc (by omega) e
      simp only [cond_false]
      rw [e1]
      exact mm_spec hn fu d (out ++ [d]) e2 (by omega) (by omega) (h.step h1 e3 e4 e5)

theorem minimal_spec {cs : List (List Int)} {n : Int} (h0 : 0 ≤ n) (hn : n ≤ 16) (hf : failsB cs n [] = true) : ∃ r c', mm cs n 17 [] = some r ∧ 0 ≤ c' ∧ c' ≤ n ∧ failsB cs 0 r = true ∧ Min cs n c' r :=
  mm_spec hn 17 n [] h0 (Int.le_refl _) (by omega) ⟨List.Pairwise.nil, fun k hk => by simp at hk, hf, fun k hk => by simp at hk⟩

theorem wo_loop {l : List Int} {k : Int} (hl : l.length ≤ 100) {K : List Int → Prop} (hK : K (wo l k)) : ∀ (fu i : Nat), i ≤ l.length → l.length - i < fu → L.ref8_Without_L1_R l k fu i (wo (l.take i) k) K
  | 0, i, _, h => by omega
  | fu + 1, i, hi, h => by
    show L.ref8_Without_L1_b l k i _ _ _
    unfold L.ref8_Without_L1_b
    rcases Nat.lt_or_ge i l.length with g | g
    · have ih := wo_loop hl hK fu (i + 1) (by omega) (by omega)
      have hin : inB (i : Int) l.length := inB_of (by omega) (by omega)
      have hlen : (wo (l.take i) k).length ≤ i := Nat.le_trans (List.length_filter_le _ _) (by simp; omega)
      have et : l.take (i + 1) = l.take i ++ [l.getD i 0] := by
        rw [List.take_succ_eq_append_getElem g, List.getD_eq_getElem?_getD, List.getElem?_eq_getElem g]; rfl
      have ew : wo (l.take (i + 1)) k = wo (l.take i) k ++ (if (l.getD i 0 != k) = true then [l.getD i 0] else []) := by
        rw [et]; unfold wo; rw [List.filter_append, List.filter_cons, List.filter_nil]
      rw [ew] at ih
      rw [i64_id (by omega) (by omega)]
      refine cond_t (by simp; omega) ⟨hin, ?_⟩
      simp only [Int.toNat_natCast]
      cases e : (l.getD i 0 != k) with
      | true => rw [e, if_pos rfl] at ih; exact cond_t rfl ⟨hin, fits_of (by simp; omega), ih⟩
      | false => rw [e, if_neg (by simp), List.append_nil] at ih; exact cond_f rfl ih
    · rw [List.take_of_length_le g]
      exact cond_f (by simp; omega) hK

theorem Without_ok {l : List Int} {k : Int} (hl : l.length ≤ 100) {K : List Int → Prop} (hK : K (wo l k)) : L.ref8_Without l k K :=
  ⟨⟨⟨l.length + 1, wo_loop hl hK _ 0 (by omega) (by omega)⟩⟩⟩

end Bb
end Go.Proofs.Ytmfdikjeijnlmaa

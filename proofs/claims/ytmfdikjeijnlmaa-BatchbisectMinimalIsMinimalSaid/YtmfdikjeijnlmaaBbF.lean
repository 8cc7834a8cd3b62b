/-
  What the functions of the search for culprits compute: Fails, First, Greedy, and the reference's. Conditions: none.
-/
import Derived.Test.YtmfdikjeijnlmaaBbR
set_option linter.unusedVariables false
namespace Go.Proofs.Ytmfdikjeijnlmaa
open Eng
namespace Bb

theorem fits_of {n : Nat} (h : n ≤ 1000) : fits n := by unfold fits; omega

theorem fault0 {a b : Int} (h : (a, b) = ((0, 0) : Int × Int)) : (!((a == 0) && ((b == 0) && true))) = false := by
  cases h; rfl
theorem fault1 {a b : Int} (h : (a, b) ≠ ((0, 0) : Int × Int)) : (!((a == 0) && ((b == 0) && true))) = true := by
  by_cases ha : a = 0
  · by_cases hb : b = 0
    · subst ha; subst hb; exact absurd rfl h
    · simp [ha, hb]
  · simp [ha]

theorem Fails_ok {n : Int} {cs : List (List Int)} {set : List Int} (hs : ∀ s, s ∈ cs → big s.length) (hc : big set.length) (hv : vf n cs = (0, 0)) (hl : lc n (-1) set = 0) {K : Bool → Int → Int → Prop} (hK : K (fails cs set) 0 0) : L.batchbisect_Fails n cs set K := by
  refine ⟨Validate_ok hs (cond_f (fault0 hv) (list_ok hc (cond_f (by rw [hl]; rfl) (Run_ok ?_ hs hc hK))))⟩
  unfold vf at hv
  split at hv
  · cases hv
  · split at hv
    · cases hv
    · unfold big; omega
theorem Fails_code {n : Int} {cs : List (List Int)} {set : List Int} (hs : ∀ s, s ∈ cs → big s.length) (hc : big set.length) (hv : vf n cs = (0, 0)) (hl : lc n (-1) set ≠ 0) {K : Bool → Int → Int → Prop} (hK : K false (lc n (-1) set) (-2)) : L.batchbisect_Fails n cs set K :=
  ⟨Validate_ok hs (cond_f (fault0 hv) (list_ok hc (cond_t (by simpa using hl) hK)))⟩
theorem Fails_bad {n : Int} {cs : List (List Int)} {set : List Int} (hs : ∀ s, s ∈ cs → big s.length) (hv : vf n cs ≠ (0, 0)) {K : Bool → Int → Int → Prop} (hK : K false (vf n cs).1 (vf n cs).2) : L.batchbisect_Fails n cs set K :=
  ⟨Validate_ok hs (cond_t (fault1 hv) hK)⟩

theorem check_bad {n : Int} {cs : List (List Int)} (hs : ∀ s, s ∈ cs → big s.length) (hv : vf n cs ≠ (0, 0)) {K : Int → Int → Prop} (hK : K (vf n cs).1 (vf n cs).2) : L.batchbisect_check n cs K :=
  ⟨Validate_ok hs (cond_t (fault1 hv) hK)⟩
theorem vf_len {n : Int} {cs : List (List Int)} (hv : vf n cs = (0, 0)) : 0 ≤ n ∧ n ≤ 16 ∧ cs.length ≤ 8 := by
  unfold vf at hv
  split at hv
  · cases hv
  · split at hv
    · cases hv
    · omega
theorem big_vf {n : Int} {cs : List (List Int)} (hv : vf n cs = (0, 0)) : big cs.length := by
  have := vf_len hv; unfold big; omega
theorem big_nil : big ([] : List Int).length := by unfold big; simp
theorem check_none {n : Int} {cs : List (List Int)} (hs : ∀ s, s ∈ cs → big s.length) (hv : vf n cs = (0, 0)) (hf : failsB cs n [] = false) {K : Int → Int → Prop} (hK : K 6 (-1)) : L.batchbisect_check n cs K :=
  ⟨Validate_ok hs (cond_f (fault0 hv) (below_ok (big_vf hv) hs big_nil (cond_t (by rw [hf]; rfl) hK)))⟩
theorem check_ok {n : Int} {cs : List (List Int)} (hs : ∀ s, s ∈ cs → big s.length) (hv : vf n cs = (0, 0)) (hf : failsB cs n [] = true) {K : Int → Int → Prop} (hK : K 0 0) : L.batchbisect_check n cs K :=
  ⟨Validate_ok hs (cond_f (fault0 hv) (below_ok (big_vf hv) hs big_nil (cond_f (by rw [hf]; rfl) hK)))⟩

/-- The search by halves. -/
def bs (p : Int → Bool) : Nat → Int → Int → List Int → Int × List Int
  | 0, _, high, t => (high, t)
  | fu + 1, low, high, t =>
    if high - low > 1 then (bif p ((low + high).tdiv 2) then bs p fu low ((low + high).tdiv 2) (t ++ [(low + high).tdiv 2]) else bs p fu ((low + high).tdiv 2) high (t ++ [(low + high).tdiv 2])) else (high, t)

theorem mid {low high : Int} (h0 : 0 ≤ low) (h : high - low > 1) : low < (low + high).tdiv 2 ∧ (low + high).tdiv 2 < high := by
  rw [Int.tdiv_eq_ediv_of_nonneg (by omega)]; omega

theorem First_loop {cs : List (List Int)} (hl : big cs.length) (hs : ∀ s, s ∈ cs → big s.length) {K : Int → List Int → Prop} : ∀ (fu : Nat) (low high : Int) (t : List Int), 0 ≤ low → low ≤ high → high ≤ 16 → high - low ≤ fu + 1 → t.length + fu ≤ 100 →
    K (bs (fun k => failsB cs k []) fu low high t).1 (bs (fun k => failsB cs k []) fu low high t).2 → L.batchbisect_First_L1_R cs (fu + 1) low high t K
  | 0, low, high, t, h0, hh, h1, h2, h3, hK => by
    show L.batchbisect_First_L1_b cs low high t _ _
    unfold L.batchbisect_First_L1_b
    refine cond_f ?_ hK
    rw [i64_id (by omega) (by omega)]; exact decide_eq_false (by omega)
  | fu + 1, low, high, t, h0, hh, h1, h2, h3, hK => by
    show L.batchbisect_First_L1_b cs low high t _ _
    unfold L.batchbisect_First_L1_b
    rw [i64_id (n := high - low) (by omega) (by omega), i64_id (n := low + high) (by omega) (by omega)]
    by_cases g : high - low > 1
    · have hm := mid h0 g
      rw [bs, if_pos g] at hK
      rw [i64_id (n := (low + high).tdiv 2) (by omega) (by omega)]
      refine cond_t (decide_eq_true g) ⟨by decide, fits_of (by simp; omega), below_ok hl hs big_nil ?_⟩
      cases e : failsB cs ((low + high).tdiv 2) [] with
      | true =>
        rw [show (bif (fun k => failsB cs k []) ((low + high).tdiv 2) then bs (fun k => failsB cs k []) fu low ((low + high).tdiv 2) (t ++ [(low + high).tdiv 2]) else bs (fun k => failsB cs k []) fu ((low + high).tdiv 2) high (t ++ [(low + high).tdiv 2])) = bs (fun k => failsB cs k []) fu low ((low + high).tdiv 2) (t ++ [(low + high).tdiv 2]) from by show (bif failsB cs _ [] then _ else _) = _; rw [e]; rfl] at hK
        exact cond_t rfl (First_loop hl hs fu _ _ _ h0 (by omega) (by omega) (by omega) (by simp; omega) hK)
      | false =>
        rw [show (bif (fun k => failsB cs k []) ((low + high).tdiv 2) then bs (fun k => failsB cs k []) fu low ((low + high).tdiv 2) (t ++ [(low + high).tdiv 2]) else bs (fun k => failsB cs k []) fu ((low + high).tdiv 2) high (t ++ [(low + high).tdiv 2])) = bs (fun k => failsB cs k []) fu ((low + high).tdiv 2) high (t ++ [(low + high).tdiv 2]) from by show (bif failsB cs _ [] then _ else _) = _; rw [e]; rfl] at hK
        exact cond_f rfl (First_loop hl hs fu _ _ _ (by omega) (by omega) (by omega) (by omega) (by simp; omega) hK)
    · rw [bs, if_neg g] at hK
      exact cond_f (decide_eq_false g) hK

/-- The search by halves of the first n changes. -/
def halves (p : Int → Bool) (n : Int) : Int × List Int := bs p 16 0 n [n]

theorem First_ok {n : Int} {cs : List (List Int)} (hs : ∀ s, s ∈ cs → big s.length) (hv : vf n cs = (0, 0)) (hf : failsB cs n [] = true) {K : Int → List Int → Int → Int → Prop}
    (hK : K (i64 ((halves (fun k => failsB cs k []) n).1 - 1)) (halves (fun k => failsB cs k []) n).2 0 0) : L.batchbisect_First n cs K := by
  have hn := vf_len hv
  exact ⟨check_ok hs hv hf (cond_f rfl ⟨⟨17, First_loop (K := fun high t => K (i64 (high - 1)) t 0 0) (big_vf hv) hs 16 0 n [n] (by omega) (by omega) (by omega) (by omega) (by simp) hK⟩⟩)⟩
theorem First_bad {n : Int} {cs : List (List Int)} (hs : ∀ s, s ∈ cs → big s.length) (hv : vf n cs ≠ (0, 0)) {K : Int → List Int → Int → Int → Prop} (hK : K 0 [] (vf n cs).1 (vf n cs).2) : L.batchbisect_First n cs K :=
  ⟨check_bad hs hv (cond_t (fault1 hv) hK)⟩
theorem First_none {n : Int} {cs : List (List Int)} (hs : ∀ s, s ∈ cs → big s.length) (hv : vf n cs = (0, 0)) (hf : failsB cs n [] = false) {K : Int → List Int → Int → Int → Prop} (hK : K 0 [] 6 (-1)) : L.batchbisect_First n cs K :=
  ⟨check_none hs hv hf (cond_t rfl hK)⟩

theorem Clone_ok {s : List Int} (h : s.length ≤ 1000) {K : List Int → Prop} (hK : K s) : L.slices_Clone s K := by
  constructor
  intro b hb
  cases b with
  | true =>
    have : s = [] := by
      cases s with
      | nil => rfl
      | cons a t => exact absurd (hb (by simp)) (by simp)
    subst this; exact hK
  | false => exact ⟨fits_of (by simpa using h), hK⟩

/-- The accepted changes. -/
def gr (cs : List (List Int)) (n : Int) : Nat → Int → List Int → List Int
  | 0, _, out => out
  | fu + 1, c, out => if c < n then (bif failsB cs 0 (out ++ [c]) then gr cs n fu (c + 1) out else gr cs n fu (c + 1) (out ++ [c])) else out

theorem Greedy_loop {cs : List (List Int)} {n : Int} (hl : big cs.length) (hs : ∀ s, s ∈ cs → big s.length) {K : List Int → Prop} : ∀ (fu : Nat) (c : Int) (out : List Int), 0 ≤ c → n ≤ 16 → n - c ≤ fu → out.length + fu ≤ 100 →
    K (gr cs n fu c out) → L.batchbisect_Greedy_L1_R cs n (fu + 1) c out K
  | 0, c, out, h0, h1, h2, h3, hK => by
    show L.batchbisect_Greedy_L1_b cs n c out _ _
    unfold L.batchbisect_Greedy_L1_b
    exact cond_f (decide_eq_false (by omega)) hK
  | fu + 1, c, out, h0, h1, h2, h3, hK => by
    show L.batchbisect_Greedy_L1_b cs n c out _ _
    unfold L.batchbisect_Greedy_L1_b
    rw [gr] at hK
    by_cases g : c < n
    · rw [if_pos g] at hK
      rw [i64_id (n := c + 1) (by omega) (by omega)]
      refine cond_t (decide_eq_true g) (Clone_ok (by omega) ⟨fits_of (by simp; omega), below_ok hl hs (by unfold big; simp; omega) ?_⟩)
      cases e : failsB cs 0 (out ++ [c]) with
      | true => rw [e] at hK; exact cond_f rfl (Greedy_loop hl hs fu _ _ (by omega) h1 (by omega) (by omega) hK)
      | false => rw [e] at hK; exact cond_t rfl (Greedy_loop hl hs fu _ _ (by omega) h1 (by omega) (by simp; omega) hK)
    · rw [if_neg g] at hK
      exact cond_f (decide_eq_false g) hK

theorem Greedy_ok {n : Int} {cs : List (List Int)} (hs : ∀ s, s ∈ cs → big s.length) (hv : vf n cs = (0, 0)) {K : List Int → Int → Int → Prop} (hK : K (gr cs n 16 0 []) 0 0) : L.batchbisect_Greedy n cs K := by
  have hn := vf_len hv
  exact ⟨Validate_ok hs (cond_f (fault0 hv) ⟨⟨17, Greedy_loop (K := fun out => K out 0 0) (big_vf hv) hs 16 0 [] (by omega) (by omega) (by omega) (by simp) hK⟩⟩)⟩
theorem Greedy_bad {n : Int} {cs : List (List Int)} (hs : ∀ s, s ∈ cs → big s.length) (hv : vf n cs ≠ (0, 0)) {K : List Int → Int → Int → Prop} (hK : K [] (vf n cs).1 (vf n cs).2) : L.batchbisect_Greedy n cs K :=
  ⟨Validate_ok hs (cond_t (fault1 hv) hK)⟩

theorem Equal_loop {a b : List Int} (hl : big a.length) (he : a.length = b.length) {K : Bool → Prop} : ∀ (fu i : Nat), i ≤ a.length → a.length - i < fu → K (decide (a.drop i = b.drop i)) → L.ref8_EqualInts_L1_R a b fu i (K true) K
  | 0, i, _, h, _ => by omega
  | fu + 1, i, hi, h, hK => by
    unfold big at hl
    show L.ref8_EqualInts_L1_b a b i _ _ _
    unfold L.ref8_EqualInts_L1_b
    rcases Nat.lt_or_ge i a.length with g | g
    · rw [drop_cons 0 g, drop_cons (l := b) 0 (by omega)] at hK
      refine cond_t (by simp; omega) ⟨inB_of (by omega) (by omega), inB_of (by omega) (by omega), ?_⟩
      simp only [Int.toNat_natCast]
      by_cases c : a.getD i 0 = b.getD i 0
      · refine cond_f (by rw [c]; simp) ?_
        rw [i64_id (by omega) (by omega)]
        refine Equal_loop hl he fu (i + 1) (by omega) (by omega) ?_
        rw [c] at hK
        have e : decide (b.getD i 0 :: a.drop (i + 1) = b.getD i 0 :: b.drop (i + 1)) = decide (a.drop (i + 1) = b.drop (i + 1)) := by
          exact decide_eq_decide.mpr (by simp)
        rw [e] at hK; exact hK
      · refine cond_t (by simpa using c) ?_
        rw [decide_eq_false (fun h => c (List.cons.inj h).1)] at hK; exact hK
    · rw [List.drop_eq_nil_of_le g, List.drop_eq_nil_of_le (show b.length ≤ i by omega)] at hK
      exact cond_f (by simp; omega) hK

theorem Equal_ok {a b : List Int} (hl : big a.length) {K : Bool → Prop} (hK : K (decide (a = b))) : L.ref8_EqualInts a b K := by
  constructor
  unfold L.ref8_EqualInts_B
  by_cases e : a.length = b.length
  · exact cond_f (by simp; omega) ⟨⟨a.length + 1, Equal_loop hl e _ 0 (by omega) (by omega) hK⟩⟩
  · rw [decide_eq_false (by intro h; exact e (by rw [h]))] at hK
    exact cond_t (by simp; omega) hK

theorem Has_loop {s : List Int} {v : Int} (hl : big s.length) {K : Bool → Prop} : ∀ (fu i : Nat), i ≤ s.length → s.length - i < fu → K (has (s.drop i) v) → L.ref8_Has_L1_R s v fu i (K false) K
  | 0, i, _, h, _ => by omega
  | fu + 1, i, hi, h, hK => by
    unfold big at hl
    show L.ref8_Has_L1_b s v i _ _ _
    unfold L.ref8_Has_L1_b
    rcases Nat.lt_or_ge i s.length with g | g
    · rw [drop_cons 0 g] at hK
      refine cond_t (by simp; omega) ⟨inB_of (by omega) (by omega), ?_⟩
      simp only [Int.toNat_natCast]
      by_cases c : s.getD i 0 = v
      · refine cond_t (by simpa using c) ?_
        rw [c] at hK
        rwa [show has (v :: s.drop (i + 1)) v = true from decide_eq_true (by simp)] at hK
      · refine cond_f (by simpa using c) ?_
        rw [i64_id (by omega) (by omega)]
        refine Has_loop hl fu (i + 1) (by omega) (by omega) ?_
        have e : has (s.getD i 0 :: s.drop (i + 1)) v = has (s.drop (i + 1)) v := by
          unfold has
          refine decide_eq_decide.mpr ?_
          rw [List.mem_cons]
          exact ⟨fun h => h.resolve_left (fun h => c h.symm), .inr⟩
        rwa [e] at hK
    · rw [List.drop_eq_nil_of_le g] at hK
      exact cond_f (by simp; omega) hK

theorem Has_ok {s : List Int} {v : Int} (hl : big s.length) {K : Bool → Prop} (hK : K (has s v)) : L.ref8_Has s v K :=
  ⟨⟨⟨s.length + 1, Has_loop hl _ 0 (by omega) (by omega) hK⟩⟩⟩

/-- The first changes. -/
def iota : Nat → List Int
  | 0 => []
  | n + 1 => iota n ++ [(n : Int)]
theorem iota_len : ∀ n, (iota n).length = n
  | 0 => rfl
  | n + 1 => by simp [iota, iota_len n]
theorem mem_iota {k : Int} : ∀ {n : Nat}, k ∈ iota n ↔ 0 ≤ k ∧ k < n
  | 0 => ⟨fun h => by simp [iota] at h, fun h => by omega⟩
  | n + 1 => by rw [iota, List.mem_append, mem_iota (n := n)]; simp; omega

theorem rFirst_loop {n : Nat} (hn : n ≤ 100) {K : List Int → Prop} (hK : K (iota n)) : ∀ (fu i : Nat), i ≤ n → n - i < fu → L.ref8_First_L1_R n fu i (iota i) K
  | 0, i, _, h => by omega
  | fu + 1, i, hi, h => by
    show L.ref8_First_L1_b n i (iota i) _ _
    unfold L.ref8_First_L1_b
    rcases Nat.lt_or_ge i n with g | g
    · refine cond_t (by simp; omega) ⟨fits_of (by simp [iota_len]; omega), ?_⟩
      rw [i64_id (by omega) (by omega)]
      exact rFirst_loop hn hK fu (i + 1) (by omega) (by omega)
    · obtain rfl : i = n := by omega
      exact cond_f (by simp) hK

theorem rFirst_ok {n : Nat} (hn : n ≤ 100) {K : List Int → Prop} (hK : K (iota n)) : L.ref8_First n K :=
  ⟨⟨⟨n + 1, rFirst_loop hn hK _ 0 (by omega) (by omega)⟩⟩⟩

end Bb
end Go.Proofs.Ytmfdikjeijnlmaa

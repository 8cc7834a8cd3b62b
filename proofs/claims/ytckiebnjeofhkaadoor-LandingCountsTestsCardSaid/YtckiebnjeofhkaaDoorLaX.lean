/-
  A main line: one patch after the other, and batches. Conditions: none.
-/
import Derived.Test.YtckiebnjeofhkaaDoorLaW
set_option linter.unusedVariables false
set_option linter.unusedSimpArgs false
namespace Go.Proofs.YtckiebnjeofhkaaDoor
open Eng Bb
namespace Tp

section
variable (ps : List Patch) (cs : List (List Int)) (base : Tree)

/-- What a patch leaves. -/
abbrev at_ (k : Nat) (t : Tree) : Tree × Int × Int := ap (ps.getD k []) t

/-- The line before a patch, where one is tried after the other. -/
def S : Nat → Tree × List Int
  | 0 => (base, [])
  | k + 1 => if (at_ ps k (S k).1).2 = (0, 0) ∧ fails cs ((S k).2 ++ [(k : Int)]) = false then ((at_ ps k (S k).1).1, (S k).2 ++ [(k : Int)]) else S k

/-- The outcome of a patch. -/
def code (k : Nat) : Int := if (at_ ps k (S ps cs base k).1).2 = (0, 0) then (if fails cs ((S ps cs base k).2 ++ [(k : Int)]) = true then 11 else 0) else (at_ ps k (S ps cs base k).1).2.1

/-- The line where a batch is tried without tests. -/
def T (a : Nat) : Nat → Tree × List Int
  | 0 => S ps cs base a
  | d + 1 => if (at_ ps (a + d) (T a d).1).2 = (0, 0) then ((at_ ps (a + d) (T a d).1).1, (T a d).2 ++ [((a + d : Nat) : Int)]) else T a d

def tcode (a d : Nat) : Int := (at_ ps (a + d) (T ps cs base a d).1).2.1

/-- How many patches could be applied. -/
def able : Nat → Nat
  | 0 => 0
  | k + 1 => able k + (if (at_ ps k (S ps cs base k).1).2 = (0, 0) then 1 else 0)

end

variable {ps : List Patch} {cs : List (List Int)} {base : Tree}

theorem S_len : ∀ k, (S ps cs base k).2.length ≤ k
  | 0 => Nat.le_refl _
  | k + 1 => by
    have := S_len k
    rw [S]
    split
    · simp; omega
    · omega

theorem T_len (a : Nat) : ∀ d, (S ps cs base a).2.length ≤ (T ps cs base a d).2.length ∧ (T ps cs base a d).2.length ≤ a + d
  | 0 => ⟨Nat.le_refl _, S_len a⟩
  | d + 1 => by
    have := T_len a d
    rw [T]
    split
    · simp; omega
    · omega

theorem fails_mono {m l : List Int} (h : fails cs (m ++ l) = false) : fails cs m = false := by
  cases c : fails cs m with
  | false => rfl
  | true =>
    obtain ⟨s, hs, hm⟩ := fails_iff.1 c
    have : fails cs (m ++ l) = true := fails_iff.2 ⟨s, hs, fun k hk => List.mem_append.2 (.inl (hm k hk))⟩
    rw [this] at h; cases h

/-- Where nothing lands: as one after the other. -/
theorem T_same (a : Nat) : ∀ d, (T ps cs base a d).2.length = (S ps cs base a).2.length → T ps cs base a d = S ps cs base (a + d) ∧ ∀ k, k < d → tcode ps cs base a k = code ps cs base (a + k)
  | 0, _ => ⟨rfl, fun k hk => by omega⟩
  | d + 1, h => by
    have h1 : (S ps cs base a).2.length ≤ (T ps cs base a d).2.length := (T_len a d).1
    rw [T] at h ⊢
    by_cases c : (at_ ps (a + d) (T ps cs base a d).1).2 = (0, 0)
    · rw [if_pos c] at h; simp at h; omega
    · rw [if_neg c] at h ⊢
      obtain ⟨e1, e2⟩ := T_same a d h
      rw [e1] at c
      refine ⟨?_, fun k hk => ?_⟩
      · rw [← Nat.add_assoc, S, if_neg (fun hh => c hh.1)]; exact e1
      · by_cases hk2 : k < d
        · exact e2 k hk2
        · obtain rfl : k = d := by omega
          unfold tcode code
          rw [e1, if_neg c]

/-- Where the tests pass: as one after the other. -/
theorem T_pass (a : Nat) : ∀ d, fails cs (T ps cs base a d).2 = false → T ps cs base a d = S ps cs base (a + d) ∧ ∀ k, k < d → tcode ps cs base a k = code ps cs base (a + k)
  | 0, _ => ⟨rfl, fun k hk => by omega⟩
  | d + 1, h => by
    rw [T] at h ⊢
    by_cases c : (at_ ps (a + d) (T ps cs base a d).1).2 = (0, 0)
    · rw [if_pos c] at h ⊢
      obtain ⟨e1, e2⟩ := T_pass a d (fails_mono h)
      rw [e1] at c h
      refine ⟨?_, fun k hk => ?_⟩
      · rw [← Nat.add_assoc, S, if_pos ⟨c, h⟩, e1]
      · by_cases hk2 : k < d
        · exact e2 k hk2
        · obtain rfl : k = d := by omega
          unfold tcode code
          rw [e1, if_pos c, if_neg (by rw [h]; decide), c]
    · rw [if_neg c] at h ⊢
      obtain ⟨e1, e2⟩ := T_pass a d h
      rw [e1] at c
      refine ⟨?_, fun k hk => ?_⟩
      · rw [← Nat.add_assoc, S, if_neg (fun hh => c hh.1)]; exact e1
      · by_cases hk2 : k < d
        · exact e2 k hk2
        · obtain rfl : k = d := by omega
          unfold tcode code
          rw [e1, if_neg c]

/-- The outcomes of the first patches. -/
def Upto (ps : List Patch) (cs : List (List Int)) (base : Tree) (b : Nat) (codes : List Int) : Prop := codes.length = ps.length ∧ ∀ k, k < b → codes.getD k 0 = code ps cs base k

theorem getD_set {l : List Int} {i k : Nat} {v : Int} (hi : i < l.length) : (l.set i v).getD k 0 = if k = i then v else l.getD k 0 := by
  rw [List.getD_eq_getElem?_getD, List.getElem?_set]
  by_cases c : k = i
  · subst c; rw [if_pos rfl, if_pos hi, if_pos rfl]; rfl
  · rw [if_neg (fun e => c e.symm), if_neg c, List.getD_eq_getElem?_getD]

theorem try_loop (hn : ps.length ≤ 12) {a : Nat} {b : Nat} (hb : b ≤ ps.length) {K : List Int → Tree → List Int → Prop} :
    ∀ (fu d : Nat) (codes : List Int), a + d ≤ b → b - (a + d) < fu → Upto ps cs base a codes → (∀ k, k < d → codes.getD (a + k) 0 = tcode ps cs base a k) →
      (∀ codes', Upto ps cs base a codes' → (∀ k, k < b - a → codes'.getD (a + k) 0 = tcode ps cs base a k) → K codes' (T ps cs base a (b - a)).1 (T ps cs base a (b - a)).2) →
      L.landing_line_process_h18_L1_R (b : Int) ps fu ((a + d : Nat) : Int) codes (T ps cs base a d).1 (T ps cs base a d).2 K
  | 0, d, _, _, h, _, _, _ => by omega
  | fu + 1, d, codes, hd, h, hu, ht, hK => by
    show L.landing_line_process_h18_L1_b (b : Int) ps ((a + d : Nat) : Int) codes (T ps cs base a d).1 (T ps cs base a d).2 _ _
    unfold L.landing_line_process_h18_L1_b
    by_cases g : a + d < b
    · have hl : (T ps cs base a d).2.length ≤ a + d := (T_len a d).2
      have hi : inB ((a + d : Nat) : Int) codes.length := inB_of (by omega) (by rw [hu.1]; omega)
      have hfit : fits ((T ps cs base a d).2.length + ([((a + d : Nat) : Int)] : List Int).length) := by unfold fits; simp; omega
      have hlt : a + d < codes.length := by rw [hu.1]; omega
      have hu' : Upto ps cs base a (codes.set (a + d) (tcode ps cs base a d)) := ⟨by rw [List.length_set]; exact hu.1, fun k hk => by rw [getD_set hlt, if_neg (by omega)]; exact hu.2 k hk⟩
      have ht' : ∀ k, k < d + 1 → (codes.set (a + d) (tcode ps cs base a d)).getD (a + k) 0 = tcode ps cs base a k := fun k hk => by
        rw [getD_set hlt]
        by_cases c : k = d
        · subst c; rw [if_pos rfl]
        · rw [if_neg (by omega)]; exact ht k (by omega)
      have next := try_loop hn hb (K := K) fu (d + 1) _ (by omega) (by omega) hu' ht' hK
      have ei : i64 (((a + d : Nat) : Int) + 1) = ((a + (d + 1) : Nat) : Int) := by rw [i64_id (by omega) (by omega)]; omega
      refine cond_t (decide_eq_true (by omega)) ⟨inB_of (by omega) (by omega), ?_⟩
      simp only [Int.toNat_natCast]
      rw [ei]
      have e2 : (T ps cs base a (d + 1)) = if (at_ ps (a + d) (T ps cs base a d).1).2 = (0, 0) then ((at_ ps (a + d) (T ps cs base a d).1).1, (T ps cs base a d).2 ++ [((a + d : Nat) : Int)]) else T ps cs base a d := rfl
      by_cases c : (at_ ps (a + d) (T ps cs base a d).1).2 = (0, 0)
      · rw [if_pos c] at e2
        rw [e2] at next
        have c' : (((at_ ps (a + d) (T ps cs base a d).1).2.1 == 0) && (((at_ ps (a + d) (T ps cs base a d).1).2.2 == 0) && true)) = true := by rw [c]; rfl
        have one : fits ((T ps cs base a d).2.length + ([((a + d : Nat) : Int)] : List Int).length) ∧ L.landing_line_process_h18_L1_R (b : Int) ps fu ((a + (d + 1) : Nat) : Int) (codes.set (a + d) (at_ ps (a + d) (T ps cs base a d).1).2.1) (at_ ps (a + d) (T ps cs base a d).1).1 ((T ps cs base a d).2 ++ ([((a + d : Nat) : Int)] : List Int)) K := ⟨hfit, next⟩
        refine ⟨ap_ok ⟨⟨hi, ?_⟩, hi, ?_⟩, ⟨ap_ok ⟨hi, ?_⟩, ap_ok ⟨hi, ?_⟩⟩, ap_ok ⟨hi, ?_⟩, ap_ok ⟨hi, ?_⟩⟩
        all_goals exact cond_t c' ⟨one, one, one⟩
      · rw [if_neg c] at e2
        rw [e2] at next
        have c' : (((at_ ps (a + d) (T ps cs base a d).1).2.1 == 0) && (((at_ ps (a + d) (T ps cs base a d).1).2.2 == 0) && true)) = false := by
          have := fault1 (a := (at_ ps (a + d) (T ps cs base a d).1).2.1) (b := (at_ ps (a + d) (T ps cs base a d).1).2.2) c
          rwa [Bool.not_eq_true'] at this
        refine ⟨ap_ok ⟨⟨hi, ?_⟩, hi, ?_⟩, ⟨ap_ok ⟨hi, ?_⟩, ap_ok ⟨hi, ?_⟩⟩, ap_ok ⟨hi, ?_⟩, ap_ok ⟨hi, ?_⟩⟩
        all_goals exact cond_f c' next
    · obtain rfl : a + d = b := by omega
      refine cond_f (decide_eq_false (by omega)) ?_
      have e : a + d - a = d := by omega
      rw [e] at hK
      exact hK codes hu ht

/-- What is said of the number of tests. -/
def Tests (ps : List Patch) (cs : List (List Int)) (base : Tree) (a b : Nat) (n : Int) : Prop := 0 ≤ n ∧ n ≤ 2 * (b - a : Nat) - 1 ∧ (cs = [] → n ≤ 1) ∧ (b = a + 1 → n = if (at_ ps a (S ps cs base a).1).2 = (0, 0) then 1 else 0) ∧ (S ps cs base a ≠ S ps cs base b → 1 ≤ n)

theorem T_one {a : Nat} : (T ps cs base a 1).2.length = (S ps cs base a).2.length ↔ (at_ ps a (S ps cs base a).1).2 ≠ (0, 0) := by
  show (if (at_ ps (a + 0) (S ps cs base a).1).2 = (0, 0) then ((at_ ps (a + 0) (S ps cs base a).1).1, (S ps cs base a).2 ++ [((a + 0 : Nat) : Int)]) else S ps cs base a).2.length = _ ↔ _
  rw [Nat.add_zero]
  by_cases c : (at_ ps a (S ps cs base a).1).2 = (0, 0)
  · rw [if_pos c]; simp [c]
  · rw [if_neg c]; simp [c]

theorem proc_ok (hn : ps.length ≤ 12) (hl : big cs.length) (hs : ∀ s, s ∈ cs → big s.length) : ∀ (fu a b : Nat) (n : Int) (codes : List Int), a < b → b ≤ ps.length → b - a ≤ fu → 0 ≤ n → n ≤ 1000 - 2 * (b - a : Nat) → Upto ps cs base a codes →
    ∀ {K : Tree → List Patch → List (List Int) → List Int → Int → List Int → Prop}, (∀ codes' n', Upto ps cs base b codes' → Tests ps cs base a b n' → K (S ps cs base b).1 ps cs (S ps cs base b).2 (n + n') codes') →
      L.landing_line_process_h18_R fu (a : Int) (b : Int) (S ps cs base a).1 ps cs (S ps cs base a).2 n codes K
  | 0, a, b, _, _, h1, _, h2, _, _, _, _, _ => by omega
  | fu + 1, a, b, n, codes, hab, hb, hfu, hn0, hn1, hu, K, hK => by
    show L.landing_line_process_h18_B (a : Int) (b : Int) (S ps cs base a).1 ps cs (S ps cs base a).2 n codes (L.landing_line_process_h18_R fu) K
    unfold L.landing_line_process_h18_B
    have hSl : (S ps cs base a).2.length ≤ a := S_len a
    refine Clone_ok (by omega) ⟨⟨b - a + 1, ?_⟩⟩
    refine try_loop (cs := cs) (base := base) hn hb (b - a + 1) 0 codes (by omega) (by omega) hu (fun k hk => by omega) (fun codes' hu' ht' => ?_)
    have hTl : (S ps cs base a).2.length ≤ (T ps cs base a (b - a)).2.length ∧ (T ps cs base a (b - a)).2.length ≤ a + (b - a) := T_len a (b - a)
    have eab : a + (b - a) = b := by omega
    have upto : (∀ k, k < b - a → tcode ps cs base a k = code ps cs base (a + k)) → Upto ps cs base b codes' := fun h => ⟨hu'.1, fun k hk => by
      by_cases c : k < a
      · exact hu'.2 k c
      · have := ht' (k - a) (by omega)
        rw [show a + (k - a) = k by omega] at this
        rw [this, h (k - a) (by omega), show a + (k - a) = k by omega]⟩
    by_cases c1 : (T ps cs base a (b - a)).2.length = (S ps cs base a).2.length
    · obtain ⟨e1, e2⟩ := T_same a (b - a) c1
      refine cond_t (by simp only [beq_iff_eq]; omega) ?_
      rw [eab] at e1
      have e3 : S ps cs base a = S ps cs base b := by
        rw [← e1]
        have hT : ∀ d, (T ps cs base a d).2.length = (S ps cs base a).2.length → T ps cs base a d = S ps cs base a := by
          intro d
          induction d with
          | zero => intro _; rfl
          | succ d ih =>
            intro h
            have h1 : (S ps cs base a).2.length ≤ (T ps cs base a d).2.length := (T_len a d).1
            rw [T] at h ⊢
            split at h
            · simp at h; omega
            · rename_i c; rw [if_neg c]; exact ih h
        exact (hT _ c1).symm
      have hK' := hK codes' 0 (upto e2) ⟨by omega, by omega, fun _ => by omega, fun e => ?_, fun h => absurd e3 h⟩
      · rw [Int.add_zero] at hK'
        rw [e3]; exact hK'
      · rw [show b - a = 1 by omega] at c1
        rw [if_neg (T_one.1 c1)]
    · refine cond_f (by simp only [beq_eq_false_iff_ne]; omega) (Run_ok hl hs (by unfold big; omega) ?_)
      have en : i64 (n + 1) = n + 1 := i64_id (by omega) (by omega)
      rw [en]
      cases c2 : fails cs (T ps cs base a (b - a)).2 with
      | false =>
        obtain ⟨e1, e2⟩ := T_pass a (b - a) c2
        rw [eab] at e1
        rw [e1]
        have hK' := hK codes' 1 (upto e2) ⟨by omega, by omega, fun _ => by omega, fun e => ?_, fun _ => by omega⟩
        · exact cond_t rfl ⟨hK', hK'⟩
        · rw [show b - a = 1 by omega] at c1
          rw [if_pos (Decidable.not_not.1 (fun h => c1 (T_one.2 h)))]
      | true =>
        have hcs : cs ≠ [] := by
          rintro rfl
          simp [fails] at c2
        refine cond_f rfl ?_
        have e1 : i64 ((b : Int) - (a : Int)) = ((b - a : Nat) : Int) := by rw [i64_id (by omega) (by omega)]; omega
        rw [e1]
        by_cases c3 : b - a = 1
        · have hb1 : b = a + 1 := by omega
          subst hb1
          have e0 : a + 1 - a = 1 := by omega
          rw [e0] at c1 c2
          have hap : (at_ ps a (S ps cs base a).1).2 = (0, 0) := Decidable.not_not.1 (fun h => c1 (T_one.2 h))
          have eT : (T ps cs base a 1).2 = (S ps cs base a).2 ++ [(a : Int)] := by
            show (if (at_ ps (a + 0) (S ps cs base a).1).2 = (0, 0) then ((at_ ps (a + 0) (S ps cs base a).1).1, (S ps cs base a).2 ++ [((a + 0 : Nat) : Int)]) else S ps cs base a).2 = _
            rw [Nat.add_zero, if_pos hap]
          rw [eT] at c2
          have eS : S ps cs base (a + 1) = S ps cs base a := by rw [S, if_neg (fun hh => by rw [c2] at hh; exact absurd hh.2 (by decide))]
          have ha : a < codes'.length := by rw [hu'.1]; omega
          refine cond_t (by rw [c3]; rfl) ⟨inB_of (by omega) (by omega), ?_⟩
          rw [Int.toNat_natCast]
          have hK' := hK (codes'.set a 11) 1 ⟨by rw [List.length_set]; exact hu'.1, fun k hk => ?_⟩ ⟨by omega, by omega, fun _ => by omega, fun e => by rw [if_pos hap], fun _ => by omega⟩
          · rw [eS] at hK'; exact hK'
          · rw [getD_set ha]
            by_cases hka : k = a
            · subst hka
              rw [if_pos rfl]
              unfold code
              rw [if_pos hap, if_pos c2]
            · rw [if_neg hka]; exact hu'.2 k (by omega)
        · have e2 : ((b - a : Nat) : Int).tdiv 2 = (((b - a) / 2 : Nat) : Int) := by
            rw [Int.tdiv_eq_ediv_of_nonneg (by omega)]; omega
          have e3 : i64 ((a : Int) + i64 (((b - a : Nat) : Int).tdiv 2)) = ((a + (b - a) / 2 : Nat) : Int) := by
            rw [e2, i64_id (n := (((b - a) / 2 : Nat) : Int)) (by omega) (by omega), i64_id (by omega) (by omega)]; omega
          refine cond_f (by simp only [beq_eq_false_iff_ne]; omega) ⟨by decide, ?_⟩
          rw [e3]
          refine proc_ok hn hl hs fu a (a + (b - a) / 2) (n + 1) codes' (by omega) (by omega) (by omega) (by omega) (by omega) hu' (fun codes2 n2 hu2 ht2 => ?_)
          obtain ⟨q0, q1, q2, q3, q4⟩ := ht2
          refine proc_ok hn hl hs fu (a + (b - a) / 2) b (n + 1 + n2) codes2 (by omega) hb (by omega) (by omega) (by omega) hu2 (fun codes3 n3 hu3 ht3 => ?_)
          obtain ⟨w0, w1, w2, w3, w4⟩ := ht3
          have := hK codes3 (1 + n2 + n3) hu3 ⟨by omega, by omega, fun e => absurd e hcs, fun e => by omega, fun _ => by omega⟩
          rw [show n + 1 + n2 + n3 = n + (1 + n2 + n3) by omega]
          exact this

end Tp
end Go.Proofs.YtckiebnjeofhkaaDoor

/-
  What the functions of the transparency log compute; a proof convinces. Conditions: none.
-/
import Derived.Test.YtopibmbmlifkmaaAuS
import Derived.Test.YtopibmbmlifkmaaLift3
set_option linter.unusedVariables false
namespace Go.Proofs.Ytopibmbmlifkmaa
open Eng
namespace Au

theorem dg0 : dg 0 := by unfold dg; decide
theorem eqt {a b : Int} (h : a = b) : (a == b) = true := by simp [h]
theorem eqf {a b : Int} (h : a ≠ b) : (a == b) = false := by simp [h]

theorem Fork_loop {a b : List R} (ha : a.length ≤ 40) {K : Int → Prop} : ∀ (fu n : Nat), n ≤ a.length → n ≤ b.length → a.length - n < fu → K ((n + fk (a.drop n) (b.drop n) : Nat) : Int) → L.audit_Fork_L1_R a b fu n K
  | 0, n, _, _, h, _ => by omega
  | fu + 1, n, hn, hm, h, hK => by
    show L.audit_Fork_L1_b a b n _ _
    unfold L.audit_Fork_L1_b
    refine ⟨fun h => (guard_in h).1, fun h => (guard_in h).2, ?_⟩
    by_cases g : n < a.length ∧ n < b.length
    · rw [drop_cons ((0, 0, 0, 0) : R) g.1, drop_cons ((0, 0, 0, 0) : R) g.2, fk] at hK
      have e1 : decide ((n : Int) < (a.length : Int)) = true := by simp; omega
      have e2 : decide ((n : Int) < (b.length : Int)) = true := by simp; omega
      rw [e1, e2]
      simp only [cond_true]
      rw [req]
      by_cases e : a.getD n (0, 0, 0, 0) = b.getD n (0, 0, 0, 0)
      · rw [if_pos e] at hK
        refine cond_t (by simpa using e) ?_
        rw [i64_id (by omega) (by omega)]
        refine Fork_loop ha fu (n + 1) (by omega) (by omega) (by omega) ?_
        rw [show n + 1 + fk (a.drop (n + 1)) (b.drop (n + 1)) = n + (fk (a.drop (n + 1)) (b.drop (n + 1)) + 1) from by omega]
        exact hK
      · rw [if_neg e] at hK
        exact cond_f (by simpa using e) hK
    · have e0 : fk (a.drop n) (b.drop n) = 0 := by
        by_cases h1 : n < a.length
        · rw [show b.drop n = [] from List.drop_eq_nil_of_le (by omega)]; cases a.drop n <;> rfl
        · rw [show a.drop n = [] from List.drop_eq_nil_of_le (by omega)]; rfl
      rw [e0] at hK
      have e : (bif (decide ((n : Int) < (a.length : Int))) then (decide ((n : Int) < (b.length : Int))) else false) = false := by
        cases h1 : decide ((n : Int) < (a.length : Int)) with
        | false => rfl
        | true => simp only [cond_true]; simp at h1 ⊢; omega
      rw [e]
      exact hK

/-- The answer of Fork. -/
def fo (a b : List R) : Int × Int × Int :=
  if logf a = (0, 0) then (if logf b = (0, 0) then ((fk a b : Int), 0, 0) else (0, (logf b).1, -2)) else (0, logf a)

theorem Fork_ok {a b : List R} {K : Int → Int → Int → Prop} (hK : K (fo a b).1 (fo a b).2.1 (fo a b).2.2) : L.audit_Fork a b K := by
  constructor
  unfold L.audit_Fork_B
  unfold fo at hK
  refine Validate_ok ?_
  by_cases hv : logf a = (0, 0)
  · rw [if_pos hv] at hK
    refine cond_f (fault0 hv) (Validate_ok ?_)
    by_cases hw : logf b = (0, 0)
    · rw [if_pos hw] at hK
      refine cond_f (fault0 hw) ⟨⟨a.length + 1, Fork_loop (logf_len hv) _ 0 (by omega) (by omega) (by omega) ?_⟩⟩
      simpa using hK
    · rw [if_neg hw] at hK
      exact cond_t (fault1 hw) hK
  · rw [if_neg hv] at hK
    exact cond_t (fault1 hv) hK

theorem leaves_loop {l : List R} (hl : l.length ≤ 40) {K : List Int → Prop} (hK : K (l.map fun r => r.2.2.2)) : ∀ (fu i : Nat), i ≤ l.length → l.length - i < fu → L.audit_leaves_L1_R l (l.length : Int) fu i ((l.take i).map fun r => r.2.2.2) K
  | 0, i, _, h => by omega
  | fu + 1, i, hi, h => by
    show L.audit_leaves_L1_b l (l.length : Int) i _ _ _
    unfold L.audit_leaves_L1_b
    rcases Nat.lt_or_ge i l.length with g | g
    · have ih := leaves_loop hl hK fu (i + 1) (by omega) (by omega)
      rw [take_snoc ((0, 0, 0, 0) : R) g, List.map_append] at ih
      refine cond_t (by simp; omega) ⟨inB_of (by omega) (by omega), fits_of (by simp; omega), ?_⟩
      rw [i64_id (by omega) (by omega)]
      exact ih
    · rw [List.take_of_length_le g]
      exact cond_f (by simp; omega) hK

theorem leaves_ok {l : List R} (hl : l.length ≤ 40) {K : List Int → Prop} (hK : K (l.map fun r => r.2.2.2)) : L.audit_leaves l K :=
  ⟨⟨⟨l.length + 1, leaves_loop hl hK _ 0 (by omega) (by omega)⟩⟩⟩

theorem chains_loop {l : List R} (hl : l.length ≤ 40) {K : List Int → Prop} (hK : K (l.map fun r => r.2.2.2)) : ∀ (fu i : Nat), i ≤ l.length → l.length - i < fu → L.law8_chainsOf_L1_R l fu i ((l.take i).map fun r => r.2.2.2) K
  | 0, i, _, h => by omega
  | fu + 1, i, hi, h => by
    show L.law8_chainsOf_L1_b l i _ _ _
    unfold L.law8_chainsOf_L1_b
    rcases Nat.lt_or_ge i l.length with g | g
    · have ih := chains_loop hl hK fu (i + 1) (by omega) (by omega)
      rw [take_snoc ((0, 0, 0, 0) : R) g, List.map_append] at ih
      refine cond_t (by simp; omega) ⟨inB_of (by omega) (by omega), fits_of (by simp; omega), ?_⟩
      rw [i64_id (by omega) (by omega)]
      exact ih
    · rw [List.take_of_length_le g]
      exact cond_f (by simp; omega) hK

theorem chains_ok {l : List R} (hl : l.length ≤ 40) {K : List Int → Prop} (hK : K (l.map fun r => r.2.2.2)) : L.law8_chainsOf l K :=
  ⟨⟨⟨l.length + 1, chains_loop hl hK _ 0 (by omega) (by omega)⟩⟩⟩

/-- The largest power of two below a number. -/
def spl : Nat → Int → Int → Int
  | 0, _, k => k
  | f + 1, n, k => if 2 * k < n then spl f n (k * 2) else k
def sp (n : Int) : Int := spl 6 n 1

theorem spl_lt : ∀ (f : Nat) {n k : Int}, 1 ≤ k → k < n → 1 ≤ spl f n k ∧ spl f n k < n
  | 0, n, k, h1, h2 => ⟨h1, h2⟩
  | f + 1, n, k, h1, h2 => by
    rw [spl]
    split
    · exact spl_lt f (by omega) (by omega)
    · exact ⟨h1, h2⟩

theorem sp_lt {n : Int} (h : 2 ≤ n) : 1 ≤ sp n ∧ sp n < n := spl_lt 6 (by omega) (by omega)

theorem split_loop {n : Int} (hn : n ≤ 64) {K : Int → Prop} : ∀ (f : Nat) {k : Int}, 1 ≤ k → k ≤ 64 → n ≤ k * 2 ^ (f + 1) → K (spl f n k) → L.translog_split_L1_R n (f + 1) k K
  | 0, k, h1, h2, h3, hK => by
    show L.translog_split_L1_b n k _ _
    unfold L.translog_split_L1_b
    rw [i64_id (n := (2 : Int) * k) (by omega) (by omega)]
    exact cond_f (by simp at h3 ⊢; omega) hK
  | f + 1, k, h1, h2, h3, hK => by
    show L.translog_split_L1_b n k _ _
    unfold L.translog_split_L1_b
    rw [i64_id (n := (2 : Int) * k) (by omega) (by omega)]
    rw [spl] at hK
    by_cases h : 2 * k < n
    · rw [if_pos h] at hK
      refine cond_t (by simpa using h) ?_
      rw [i64_id (by omega) (by omega)]
      refine split_loop hn f (by omega) (by omega) ?_ hK
      rw [Int.pow_succ, ← Int.mul_assoc] at h3
      rw [Int.mul_assoc, Int.mul_comm 2, ← Int.mul_assoc]; exact h3
    · rw [if_neg h] at hK
      exact cond_f (by simpa using h) hK

theorem split_ok {n : Int} (hn : n ≤ 64) {K : Int → Prop} (hK : K (sp n)) : L.translog_split n K :=
  ⟨⟨⟨7, split_loop hn 6 (by omega) (by omega) (by omega) hK⟩⟩⟩

/-- The root of leaves. -/
def rtF : Nat → List Int → Int
  | 0, _ => 0
  | f + 1, l => if l.length = 0 then 0 else if l.length = 1 then l.getD 0 0 else pr (rtF f (l.take (sp l.length).toNat)) (rtF f (l.drop (sp l.length).toNat))

theorem rtF_dg : ∀ {f : Nat} {l : List Int}, (∀ x, x ∈ l → dg x) → dg (rtF f l)
  | 0, l, _ => by unfold dg rtF; decide
  | f + 1, l, h => by
    rw [rtF]
    split
    · unfold dg; decide
    · split
      · next h1 => exact h _ (getD_mem 0 (by omega))
      · exact pr_dg _ _

theorem root_R_ok : ∀ (f : Nat) {l : List Int} {K : Int → Prop}, l.length ≤ f → l.length ≤ 64 → (∀ x, x ∈ l → dg x) → K (rtF f l) → L.translog_root_R (f + 1) l K
  | 0, l, K, hf, h64, hd, hK => by
    show L.translog_root_B l _ _
    unfold L.translog_root_B
    exact cond_t (eqt (by omega)) hK
  | f + 1, l, K, hf, h64, hd, hK => by
    show L.translog_root_B l _ _
    unfold L.translog_root_B
    rw [rtF] at hK
    by_cases h0 : l.length = 0
    · rw [if_pos h0] at hK
      exact cond_t (eqt (by omega)) hK
    · rw [if_neg h0] at hK
      refine cond_f (eqf (by omega)) ?_
      by_cases h1 : l.length = 1
      · rw [if_pos h1] at hK
        exact cond_t (eqt (by omega)) ⟨inB_of (by omega) (by omega), hK⟩
      · rw [if_neg h1] at hK
        refine cond_f (eqf (by omega)) (split_ok (by omega) ?_)
        obtain ⟨s1, s2⟩ := sp_lt (n := (l.length : Int)) (by omega)
        refine ⟨⟨by omega, by omega⟩, ?_⟩
        refine root_R_ok f (by simp; omega) (by simp; omega) (fun x hx => hd x (List.mem_of_mem_take hx)) ⟨⟨by omega, by omega⟩, ?_⟩
        refine root_R_ok f (by simp; omega) (by simp; omega) (fun x hx => hd x (List.mem_of_mem_drop hx)) ?_
        exact tpair_ok (rtF_dg fun x hx => hd x (List.mem_of_mem_take hx)) (rtF_dg fun x hx => hd x (List.mem_of_mem_drop hx)) hK

theorem root_ok {f : Nat} {l : List Int} {K : Int → Prop} (h1 : l.length ≤ f) (h2 : l.length ≤ 64) (h3 : ∀ x, x ∈ l → dg x) (hK : K (rtF f l)) : L.translog_root l K := ⟨⟨f + 1, root_R_ok f h1 h2 h3 hK⟩⟩

/-- The proof of a leaf. -/
def pvF : Nat → List Int → Nat → List Int
  | 0, _, _ => []
  | f + 1, l, i => if l.length = 1 then [] else if i < (sp l.length).toNat then pvF f (l.take (sp l.length).toNat) i ++ [rtF f (l.drop (sp l.length).toNat)] else pvF f (l.drop (sp l.length).toNat) (i - (sp l.length).toNat) ++ [rtF f (l.take (sp l.length).toNat)]

theorem pvF_len : ∀ (f : Nat) (l : List Int) (i : Nat), (pvF f l i).length ≤ f
  | 0, _, _ => by simp [pvF]
  | f + 1, l, i => by
    rw [pvF]
    split
    · simp
    · split
      · have := pvF_len f (l.take (sp l.length).toNat) i; simp; omega
      · have := pvF_len f (l.drop (sp l.length).toNat) (i - (sp l.length).toNat); simp; omega

theorem pvF_dg : ∀ (f : Nat) (l : List Int) (i : Nat), (∀ x, x ∈ l → dg x) → ∀ x, x ∈ pvF f l i → dg x
  | 0, _, _, _, x, hx => by simp [pvF] at hx
  | f + 1, l, i, hd, x, hx => by
    rw [pvF] at hx
    split at hx
    · simp at hx
    · split at hx
      · rcases List.mem_append.1 hx with hx | hx
        · exact pvF_dg f _ i (fun x hx => hd x (List.mem_of_mem_take hx)) x hx
        · rw [List.mem_singleton] at hx; rw [hx]; exact rtF_dg fun x hx => hd x (List.mem_of_mem_drop hx)
      · rcases List.mem_append.1 hx with hx | hx
        · exact pvF_dg f _ _ (fun x hx => hd x (List.mem_of_mem_drop hx)) x hx
        · rw [List.mem_singleton] at hx; rw [hx]; exact rtF_dg fun x hx => hd x (List.mem_of_mem_take hx)

theorem prove_R_ok : ∀ (f : Nat) {l : List Int} {i : Nat} {K : List Int → Prop}, l.length ≤ f → f ≤ 64 → i < l.length → (∀ x, x ∈ l → dg x) → K (pvF f l i) → L.translog_prove_R (f + 1) l i K
  | 0, l, i, K, hf, h64, hi, hd, hK => by omega
  | f + 1, l, i, K, hf, h64, hi, hd, hK => by
    show L.translog_prove_B l i _ _
    unfold L.translog_prove_B
    rw [pvF] at hK
    by_cases h1 : l.length = 1
    · rw [if_pos h1] at hK
      exact cond_t (eqt (by omega)) hK
    · rw [if_neg h1] at hK
      refine cond_f (eqf (by omega)) (split_ok (by omega) ?_)
      obtain ⟨s1, s2⟩ := sp_lt (n := (l.length : Int)) (by omega)
      by_cases hk : i < (sp l.length).toNat
      · rw [if_pos hk] at hK
        refine cond_t (by simp; omega) ⟨⟨by omega, by omega⟩, ?_⟩
        refine prove_R_ok f (by simp; omega) (by omega) (by simp; omega) (fun x hx => hd x (List.mem_of_mem_take hx)) ⟨⟨by omega, by omega⟩, ?_⟩
        refine root_ok (f := f) (by simp; omega) (by simp; omega) (fun x hx => hd x (List.mem_of_mem_drop hx)) ⟨?_, hK⟩
        have := pvF_len f (l.take (sp l.length).toNat) i
        exact fits_of (by simp; omega)
      · rw [if_neg hk] at hK
        refine cond_f (by simp; omega) ⟨⟨by omega, by omega⟩, ?_⟩
        rw [i64_id (by omega) (by omega)]
        have e : (i : Int) - sp l.length = ((i - (sp l.length).toNat : Nat) : Int) := by omega
        rw [e]
        refine prove_R_ok f (by simp; omega) (by omega) (by simp; omega) (fun x hx => hd x (List.mem_of_mem_drop hx)) ⟨⟨by omega, by omega⟩, ?_⟩
        refine root_ok (f := f) (by simp; omega) (by simp; omega) (fun x hx => hd x (List.mem_of_mem_take hx)) ⟨?_, hK⟩
        have := pvF_len f (l.drop (sp l.length).toNat) (i - (sp l.length).toNat)
        exact fits_of (by simp; omega)

/-- The next element of a proof. -/
def nx (p : List Int) (b : Bool) : Int × List Int × Bool := if p.length = 0 then (0, p, true) else (p.getD 0 0, p.drop 1, b)

theorem rnext_ok {p : List Int} {b : Bool} {K : Int → List Int → Bool → Prop} (hK : K (nx p b).1 (nx p b).2.1 (nx p b).2.2) : L.translog_reader_next_h3 p b K := by
  constructor
  unfold L.translog_reader_next_h3_B
  unfold nx at hK
  by_cases h : p.length = 0
  · rw [if_pos h] at hK
    exact cond_t (eqt (by omega)) hK
  · rw [if_neg h] at hK
    exact cond_f (eqf (by omega)) ⟨inB_of (by omega) (by omega), ⟨by omega, by omega⟩, hK⟩

/-- The root out of a leaf and a proof. -/
def incF : Nat → Int → Int → Int → List Int → Bool → Int × List Int × Bool
  | 0, _, _, leaf, p, b => (leaf, p, b)
  | f + 1, n, i, leaf, p, b => if n = 1 then (leaf, p, b) else if i < sp n then (
      pr (incF f (sp n) i leaf p b).1 (nx (incF f (sp n) i leaf p b).2.1 (incF f (sp n) i leaf p b).2.2).1, (nx (incF f (sp n) i leaf p b).2.1 (incF f (sp n) i leaf p b).2.2).2)
    else (pr (nx (incF f (n - sp n) (i - sp n) leaf p b).2.1 (incF f (n - sp n) (i - sp n) leaf p b).2.2).1 (incF f (n - sp n) (i - sp n) leaf p b).1, (nx (incF f (n - sp n) (i - sp n) leaf p b).2.1 (incF f (n - sp n) (i - sp n) leaf p b).2.2).2)

theorem nx_dg {p : List Int} {b : Bool} (h : ∀ x, x ∈ p → dg x) : dg (nx p b).1 ∧ ∀ x, x ∈ (nx p b).2.1 → dg x := by
  unfold nx
  split
  · exact ⟨dg0, h⟩
  · exact ⟨h _ (getD_mem 0 (by omega)), fun x hx => h x (List.mem_of_mem_drop hx)⟩

theorem incF_dg : ∀ (f : Nat) (n i leaf : Int) (p : List Int) (b : Bool), dg leaf → (∀ x, x ∈ p → dg x) → dg (incF f n i leaf p b).1 ∧ ∀ x, x ∈ (incF f n i leaf p b).2.1 → dg x
  | 0, n, i, leaf, p, b, hl, hp => ⟨hl, hp⟩
  | f + 1, n, i, leaf, p, b, hl, hp => by
    rw [incF]
    split
    · exact ⟨hl, hp⟩
    · split
      · exact ⟨pr_dg _ _, (nx_dg (incF_dg f _ _ _ _ _ hl hp).2).2⟩
      · exact ⟨pr_dg _ _, (nx_dg (incF_dg f _ _ _ _ _ hl hp).2).2⟩

theorem included_R_ok : ∀ (f : Nat) {n i leaf : Int} {p : List Int} {b : Bool} {K : Int → List Int → Bool → Prop}, n ≤ f → f ≤ 64 → 0 ≤ i → i < n → dg leaf → (∀ x, x ∈ p → dg x) → K (incF f n i leaf p b).1 (incF f n i leaf p b).2.1 (incF f n i leaf p b).2.2 →
    L.translog_reader_included_h2_R (f + 1) n i leaf p b K
  | 0, n, i, leaf, p, b, K, hf, h64, hi, hn, hl, hp, hK => by omega
  | f + 1, n, i, leaf, p, b, K, hf, h64, hi, hn, hl, hp, hK => by
    show L.translog_reader_included_h2_B n i leaf p b _ _
    unfold L.translog_reader_included_h2_B
    rw [incF] at hK
    by_cases h1 : n = 1
    · rw [if_pos h1] at hK
      exact cond_t (eqt (by omega)) hK
    · rw [if_neg h1] at hK
      refine cond_f (eqf (by omega)) (split_ok (by omega) ?_)
      obtain ⟨s1, s2⟩ := sp_lt (n := n) (by omega)
      by_cases hk : i < sp n
      · rw [if_pos hk] at hK
        refine cond_t (by simpa using hk) ?_
        have hd := incF_dg f (sp n) i leaf p b hl hp
        exact included_R_ok f (by omega) (by omega) hi hk hl hp (rnext_ok (tpair_ok hd.1 (nx_dg hd.2).1 hK))
      · rw [if_neg hk] at hK
        refine cond_f (by simpa using hk) ?_
        rw [i64_id (n := n - sp n) (by omega) (by omega), i64_id (n := i - sp n) (by omega) (by omega)]
        have hd := incF_dg f (n - sp n) (i - sp n) leaf p b hl hp
        exact included_R_ok f (by omega) (by omega) (by omega) (by omega) hl hp (rnext_ok (tpair_ok (nx_dg hd.2).1 hd.1 hK))

theorem getD_take {l : List Int} {k i : Nat} (h : i < k) : (l.take k).getD i 0 = l.getD i 0 := by
  simp [List.getD_eq_getElem?_getD, List.getElem?_take, h]
theorem getD_drop {l : List Int} {k i : Nat} (h : k ≤ i) : (l.drop k).getD (i - k) 0 = l.getD i 0 := by
  simp only [List.getD_eq_getElem?_getD, List.getElem?_drop]
  rw [show k + (i - k) = i from by omega]

/-- A leaf and its proof give the root. -/
theorem convince : ∀ (f : Nat) {l : List Int} {i : Nat} (rest : List Int) (b : Bool), l.length ≤ f → i < l.length → incF f l.length i (l.getD i 0) (pvF f l i ++ rest) b = (rtF f l, rest, b)
  | 0, l, i, rest, b, hf, hi => by omega
  | f + 1, l, i, rest, b, hf, hi => by
    rw [incF, pvF, rtF]
    rw [if_neg (by omega : ¬ l.length = 0)]
    by_cases h1 : l.length = 1
    · rw [if_pos h1, if_pos h1, if_pos (by omega)]
      have : i = 0 := by omega
      subst this
      rfl
    · rw [if_neg h1, if_neg h1, if_neg (by omega)]
      obtain ⟨s1, s2⟩ := sp_lt (n := (l.length : Int)) (by omega)
      by_cases hk : i < (sp l.length).toNat
      · rw [if_pos hk, if_pos (by omega)]
        have hlen : (l.take (sp l.length).toNat).length = (sp l.length).toNat := by simp; omega
        have ih := convince f (l := l.take (sp l.length).toNat) (i := i) ([rtF f (l.drop (sp l.length).toNat)] ++ rest) b (by omega) (by omega)
        rw [hlen, getD_take hk, show (((sp l.length).toNat : Nat) : Int) = sp l.length from by omega] at ih
        rw [List.append_assoc, ih]
        simp [nx]
      · rw [if_neg hk, if_neg (by omega)]
        have hlen : (l.drop (sp l.length).toNat).length = l.length - (sp l.length).toNat := by simp
        have ih := convince f (l := l.drop (sp l.length).toNat) (i := i - (sp l.length).toNat) ([rtF f (l.take (sp l.length).toNat)] ++ rest) b (by omega) (by omega)
        rw [hlen, getD_drop (by omega), show ((l.length - (sp l.length).toNat : Nat) : Int) = (l.length : Int) - sp l.length from by omega, show ((i - (sp l.length).toNat : Nat) : Int) = (i : Int) - sp l.length from by omega] at ih
        rw [List.append_assoc, ih]
        simp [nx]

/-- The first number that is no digest. -/
def dgs (index : Int) : Nat → List Int → Int × Int
  | _, [] => (0, 0)
  | i, x :: l => if vd x = false then (3, index + i) else dgs index (i + 1) l

theorem digests_loop {index : Int} {l : List Int} (h0 : 0 ≤ index ∧ index ≤ 100) (hl : l.length ≤ 64) {K : Int → Int → Prop} : ∀ (fu i : Nat), i ≤ l.length → l.length - i < fu → K (dgs index i (l.drop i)).1 (dgs index i (l.drop i)).2 → L.translog_digests_L1_R index l (l.length : Int) fu i (K 0 0) K
  | 0, i, _, h, _ => by omega
  | fu + 1, i, hi, h, hK => by
    show L.translog_digests_L1_b index l (l.length : Int) i _ _ _
    unfold L.translog_digests_L1_b
    rcases Nat.lt_or_ge i l.length with g | g
    · rw [drop_cons (0 : Int) g, dgs] at hK
      refine cond_t (by simp; omega) ⟨inB_of (by omega) (by omega), isDigest_ok ?_⟩
      have e : l.getD (i : Int).toNat 0 = l.getD i 0 := rfl
      rw [e]
      cases hv : vd (l.getD i 0) with
      | false =>
        rw [hv, if_pos rfl] at hK
        refine cond_t rfl ?_
        rw [i64_id (by omega) (by omega)]; exact hK
      | true =>
        rw [hv, if_neg (by simp)] at hK
        refine cond_f rfl ?_
        rw [i64_id (by omega) (by omega)]
        exact digests_loop h0 hl fu (i + 1) (by omega) (by omega) hK
    · rw [List.drop_eq_nil_of_le g] at hK
      exact cond_f (by simp; omega) hK

theorem dgs_all {index : Int} : ∀ {l : List Int} {i : Nat}, (∀ x, x ∈ l → dg x) → dgs index i l = (0, 0)
  | [], _, _ => rfl
  | x :: l, i, h => by
    rw [dgs, if_neg (by simp [vd_iff.2 (h x (by simp))])]
    exact dgs_all fun x hx => h x (by simp [hx])

theorem dgs_zero {index : Int} : ∀ {l : List Int} {i : Nat}, dgs index i l = (0, 0) → ∀ x, x ∈ l → dg x
  | [], _, _, x, hx => by simp at hx
  | a :: l, i, h, x, hx => by
    rw [dgs] at h
    split at h
    · cases h
    · next ha =>
      rcases List.mem_cons.1 hx with rfl | hx
      · exact vd_iff.1 (by simpa using ha)
      · exact dgs_zero h x hx

def ck (index : Int) (l : List Int) : Int × Int := if 64 < l.length then (2, -1) else dgs index 0 l

theorem check_ok {l : List Int} {K : Int → Int → Prop} (hK : K (ck 0 l).1 (ck 0 l).2) : L.translog_check l K := by
  constructor
  unfold L.translog_check_B
  unfold ck at hK
  by_cases h : 64 < l.length
  · rw [if_pos h] at hK; exact cond_t (by simp; omega) hK
  · rw [if_neg h] at hK
    exact cond_f (by simp; omega) ⟨⟨⟨l.length + 1, digests_loop (by omega) (by omega) _ 0 (by omega) (by omega) hK⟩⟩⟩

theorem checkProof_ok {l : List Int} {K : Int → Int → Prop} (hK : K (ck 4 l).1 (ck 4 l).2) : L.translog_checkProof l K := by
  constructor
  unfold L.translog_checkProof_B
  unfold ck at hK
  by_cases h : 64 < l.length
  · rw [if_pos h] at hK; exact cond_t (by simp; omega) hK
  · rw [if_neg h] at hK
    exact cond_f (by simp; omega) ⟨⟨⟨l.length + 1, digests_loop (by omega) (by omega) _ 0 (by omega) (by omega) hK⟩⟩⟩

theorem ck_zero {index : Int} {l : List Int} (h : ck index l = (0, 0)) : l.length ≤ 64 ∧ ∀ x, x ∈ l → dg x := by
  unfold ck at h
  split at h
  · cases h
  · exact ⟨by omega, dgs_zero h⟩

theorem ck_of {index : Int} {l : List Int} (h : l.length ≤ 64) (hd : ∀ x, x ∈ l → dg x) : ck index l = (0, 0) := by
  unfold ck; rw [if_neg (by omega)]; exact dgs_all hd

theorem Root_ok {l : List Int} (h : l.length ≤ 64) (hd : ∀ x, x ∈ l → dg x) {K : Int → Int → Int → Prop} (hK : K (rtF 64 l) 0 0) : L.translog_Root l K := by
  constructor
  unfold L.translog_Root_B
  exact check_ok (by rw [ck_of h hd]; exact cond_f rfl (root_ok h h hd hK))

theorem Prove_ok {l : List Int} {i : Nat} (h : l.length ≤ 64) (hd : ∀ x, x ∈ l → dg x) (hi : i < l.length) {K : List Int → Int → Int → Prop} (hK : K (pvF 64 l i) 0 0) : L.translog_Prove l i K := by
  constructor
  unfold L.translog_Prove_B
  refine check_ok ?_
  rw [ck_of h hd]
  refine cond_f rfl (cond_f ?_ ⟨⟨65, prove_R_ok 64 h (by omega) hi hd hK⟩⟩)
  have : decide ((i : Int) < 0) = false := by simp
  rw [this]; simp; omega

/-- The answer of Verify. -/
def vfy (root n i leaf : Int) (p : List Int) : Bool × Int × Int :=
  if vd root = false then (false, 3, 0) else if ¬ (1 ≤ n ∧ n ≤ 64) then (false, 3, 1) else if ¬ (0 ≤ i ∧ i < n) then (false, 3, 2) else if vd leaf = false then (false, 3, 3)
  else if ck 4 p ≠ (0, 0) then (false, ck 4 p) else ((incF 64 n i leaf p false).1 == root && (!(incF 64 n i leaf p false).2.2 && ((incF 64 n i leaf p false).2.1.length == 0)), 0, 0)

theorem Verify_loop {a b c d : Bool} {Q : Prop} {K : Bool → Int → Int → Prop} (h : if a = false then K false 3 0 else if b = false then K false 3 1 else if c = false then K false 3 2 else if d = false then K false 3 3 else Q) : L.translog_Verify_L1 a b c d 0 Q K := by
  refine ⟨⟨5, ?_⟩⟩
  show L.translog_Verify_L1_b a b c d 0 _ _ _
  unfold L.translog_Verify_L1_b
  refine cond_t (by decide) ⟨inB_of (by omega) (by omega), ?_⟩
  cases a with
  | false => exact cond_t rfl h
  | true =>
    refine cond_f rfl ?_
    rw [i64_id (by omega) (by omega)]
    show L.translog_Verify_L1_b true b c d (0 + 1) _ _ _
    unfold L.translog_Verify_L1_b
    refine cond_t (by decide) ⟨inB_of (by omega) (by omega), ?_⟩
    cases b with
    | false => exact cond_t rfl h
    | true =>
      refine cond_f rfl ?_
      rw [i64_id (by omega) (by omega)]
      show L.translog_Verify_L1_b true true c d (0 + 1 + 1) _ _ _
      unfold L.translog_Verify_L1_b
      refine cond_t (by decide) ⟨inB_of (by omega) (by omega), ?_⟩
      cases c with
      | false => exact cond_t rfl h
      | true =>
        refine cond_f rfl ?_
        rw [i64_id (by omega) (by omega)]
        show L.translog_Verify_L1_b true true true d (0 + 1 + 1 + 1) _ _ _
        unfold L.translog_Verify_L1_b
        refine cond_t (by decide) ⟨inB_of (by omega) (by omega), ?_⟩
        cases d with
        | false => exact cond_t rfl h
        | true =>
          refine cond_f rfl ?_
          rw [i64_id (by omega) (by omega)]
          show L.translog_Verify_L1_b true true true true (0 + 1 + 1 + 1 + 1) _ _ _
          unfold L.translog_Verify_L1_b
          exact cond_f (by decide) h

theorem Verify_ok {root n i leaf : Int} {p : List Int} {K : Bool → Int → Int → Prop} (hK : K (vfy root n i leaf p).1 (vfy root n i leaf p).2.1 (vfy root n i leaf p).2.2) : L.translog_Verify root n i leaf p K := by
  constructor
  unfold L.translog_Verify_B
  unfold vfy at hK
  refine isDigest_ok (isDigest_ok (Verify_loop ?_))
  have e1 : (bif (decide (n ≥ 1)) then (decide (n ≤ 64)) else false) = decide (1 ≤ n ∧ n ≤ 64) := bool_iff (by simp)
  have e2 : (bif (decide (i ≥ 0)) then (decide (i < n)) else false) = decide (0 ≤ i ∧ i < n) := bool_iff (by simp)
  rw [e1, e2]
  by_cases h1 : vd root = false
  · rw [if_pos h1] at hK ⊢; exact hK
  · rw [if_neg h1] at hK ⊢
    by_cases h2 : 1 ≤ n ∧ n ≤ 64
    · rw [if_neg (by simpa using h2)] at hK
      rw [if_neg (by simpa using h2)]
      by_cases h3 : 0 ≤ i ∧ i < n
      · rw [if_neg (by simpa using h3)] at hK
        rw [if_neg (by simpa using h3)]
        by_cases h4 : vd leaf = false
        · rw [if_pos h4] at hK ⊢; exact hK
        · rw [if_neg h4] at hK ⊢
          refine checkProof_ok ?_
          by_cases h5 : ck 4 p = (0, 0)
          · rw [if_neg (by simpa using h5)] at hK
            refine cond_f (fault0 h5) ⟨⟨65, ?_⟩⟩
            refine included_R_ok 64 (by omega) (by omega) h3.1 h3.2 (vd_iff.1 (by simpa using h4)) (ck_zero h5).2 ?_
            cases e : ((incF 64 n i leaf p false).1 == root) with
            | true =>
              rw [e, Bool.true_and] at hK
              refine cond_t rfl ⟨?_⟩
              have e3 : (bif (!(incF 64 n i leaf p false).2.2) then (((incF 64 n i leaf p false).2.1.length : Int) == 0) else false) = (!(incF 64 n i leaf p false).2.2 && ((incF 64 n i leaf p false).2.1.length == 0)) := bool_iff (by cases (incF 64 n i leaf p false).2.2 <;> simp)
              unfold L.translog_reader_done_B
              rw [e3]; exact hK
            | false =>
              rw [e, Bool.false_and] at hK
              exact cond_f rfl hK
          · rw [if_pos (by simpa using h5)] at hK
            exact cond_t (fault1 h5) hK
      · rw [if_pos (by simpa using h3)] at hK
        rw [if_pos (by simpa using h3)]; exact hK
    · rw [if_pos (by simpa using h2)] at hK
      rw [if_pos (by simpa using h2)]; exact hK

end Au
end Go.Proofs.Ytopibmbmlifkmaa

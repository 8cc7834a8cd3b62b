/-
  The audit log: comparisons, inclusion, the example; appending extends, proofs convince. Conditions: none.
-/
import Derived.Test.YtopibmbmlifkmaaAuT
set_option linter.unusedVariables false
set_option maxRecDepth 100000
namespace Go.Proofs.Ytopibmbmlifkmaa
open Eng
namespace Au

def big (n : Nat) : Prop := n ≤ 9223372036854775807

theorem Equal_loop {a b : List Int} (hl : big a.length) (he : a.length = b.length) {K : Bool → Prop} : ∀ (fu i : Nat), i ≤ a.length → a.length - i < fu → K (decide (a.drop i = b.drop i)) → L.ref8_EqualInts_L1_R a b fu i (K true) K
  | 0, i, _, h, _ => by omega
  | fu + 1, i, hi, h, hK => by
    show L.ref8_EqualInts_L1_b a b i _ _ _
    unfold L.ref8_EqualInts_L1_b
    unfold big at hl
    rcases Nat.lt_or_ge i a.length with g | g
    · rw [drop_cons (0 : Int) g, drop_cons (0 : Int) (l := b) (by omega)] at hK
      refine cond_t (by simp; omega) ⟨inB_of (by omega) (by omega), inB_of (by omega) (by omega), ?_⟩
      have e : ∀ l : List Int, l.getD (i : Int).toNat 0 = l.getD i 0 := fun _ => rfl
      rw [e, e]
      by_cases h1 : a.getD i 0 = b.getD i 0
      · refine cond_f (by rw [h1]; simp) ?_
        rw [i64_id (by omega) (by omega)]
        refine Equal_loop hl he fu (i + 1) (by omega) (by omega) ?_
        rw [h1] at hK
        simpa using hK
      · refine cond_t (by simpa using h1) ?_
        have : decide (a.getD i 0 :: a.drop (i + 1) = b.getD i 0 :: b.drop (i + 1)) = false := by simp; intro h2; exact absurd h2 h1
        rw [this] at hK; exact hK
    · rw [List.drop_eq_nil_of_le g, List.drop_eq_nil_of_le (by omega)] at hK
      exact cond_f (by simp; omega) (by simpa using hK)

theorem Equal_ok {a b : List Int} (hl : big a.length) {K : Bool → Prop} (hK : K (decide (a = b))) : L.ref8_EqualInts a b K := by
  constructor
  unfold L.ref8_EqualInts_B
  by_cases h : a.length = b.length
  · refine cond_f (by simp; omega) ⟨⟨a.length + 1, Equal_loop hl h _ 0 (by omega) (by omega) ?_⟩⟩
    simpa using hK
  · refine cond_t (by simp; omega) ?_
    have : decide (a = b) = false := by simp; intro e; exact h (by rw [e])
    rw [this] at hK; exact hK

theorem EqualR_loop {a b : List R} (hl : a.length ≤ 1000) (he : a.length = b.length) {K : Bool → Prop} : ∀ (fu i : Nat), i ≤ a.length → a.length - i < fu → K (decide (a.drop i = b.drop i)) → L.ref8_EqualRecords_L1_R a b fu i (K true) K
  | 0, i, _, h, _ => by omega
  | fu + 1, i, hi, h, hK => by
    show L.ref8_EqualRecords_L1_b a b i _ _ _
    unfold L.ref8_EqualRecords_L1_b
    rcases Nat.lt_or_ge i a.length with g | g
    · rw [drop_cons ((0, 0, 0, 0) : R) g, drop_cons ((0, 0, 0, 0) : R) (l := b) (by omega)] at hK
      refine cond_t (by simp; omega) ⟨inB_of (by omega) (by omega), inB_of (by omega) (by omega), ?_⟩
      have e : ∀ l : List R, l.getD (i : Int).toNat (0, 0, 0, 0) = l.getD i (0, 0, 0, 0) := fun _ => rfl
      rw [req, e, e]
      by_cases h1 : a.getD i (0, 0, 0, 0) = b.getD i (0, 0, 0, 0)
      · refine cond_f (by simpa using h1) ?_
        rw [i64_id (by omega) (by omega)]
        refine EqualR_loop hl he fu (i + 1) (by omega) (by omega) ?_
        rw [h1] at hK
        simpa using hK
      · refine cond_t (by simpa using h1) ?_
        have : decide (a.getD i (0, 0, 0, 0) :: a.drop (i + 1) = b.getD i (0, 0, 0, 0) :: b.drop (i + 1)) = false := by
          rw [decide_eq_false_iff_not]; intro h2; exact h1 (List.cons.inj h2).1
        rw [this] at hK; exact hK
    · rw [List.drop_eq_nil_of_le g, List.drop_eq_nil_of_le (by omega)] at hK
      exact cond_f (by simp; omega) (by simpa using hK)

theorem EqualR_ok {a b : List R} (hl : a.length ≤ 1000) {K : Bool → Prop} (hK : K (decide (a = b))) : L.ref8_EqualRecords a b K := by
  constructor
  unfold L.ref8_EqualRecords_B
  by_cases h : a.length = b.length
  · refine cond_f (by simp; omega) ⟨⟨a.length + 1, EqualR_loop hl h _ 0 (by omega) (by omega) ?_⟩⟩
    simpa using hK
  · refine cond_t (by simp; omega) ?_
    have : decide (a = b) = false := by simp; intro e; exact h (by rw [e])
    rw [this] at hK; exact hK

theorem Has_loop {s : List Int} {v : Int} (hl : big s.length) {K : Bool → Prop} : ∀ (fu i : Nat), i ≤ s.length → s.length - i < fu → K (decide (v ∈ s.drop i)) → L.ref8_Has_L1_R s v fu i (K false) K
  | 0, i, _, h, _ => by omega
  | fu + 1, i, hi, h, hK => by
    show L.ref8_Has_L1_b s v i _ _ _
    unfold L.ref8_Has_L1_b
    unfold big at hl
    rcases Nat.lt_or_ge i s.length with g | g
    · rw [drop_cons (0 : Int) g] at hK
      refine cond_t (by simp; omega) ⟨inB_of (by omega) (by omega), ?_⟩
      have e : s.getD (i : Int).toNat 0 = s.getD i 0 := rfl
      rw [e]
      by_cases h1 : s.getD i 0 = v
      · refine cond_t (by simpa using h1) ?_
        have : decide (v ∈ s.getD i 0 :: s.drop (i + 1)) = true := by rw [decide_eq_true_eq]; exact List.mem_cons.2 (.inl h1.symm)
        rw [this] at hK; exact hK
      · refine cond_f (by simpa using h1) ?_
        rw [i64_id (by omega) (by omega)]
        refine Has_loop hl fu (i + 1) (by omega) (by omega) ?_
        have : decide (v ∈ s.getD i 0 :: s.drop (i + 1)) = decide (v ∈ s.drop (i + 1)) := by
          apply bool_iff
          rw [decide_eq_true_eq, decide_eq_true_eq, List.mem_cons]
          exact ⟨fun h => h.elim (fun e => absurd e.symm h1) id, .inr⟩
        rw [this] at hK; exact hK
    · rw [List.drop_eq_nil_of_le g] at hK
      exact cond_f (by simp; omega) (by simpa using hK)

theorem Has_ok {s : List Int} {v : Int} (hl : big s.length) {K : Bool → Prop} (hK : K (decide (v ∈ s))) : L.ref8_Has s v K :=
  ⟨⟨⟨s.length + 1, Has_loop hl _ 0 (by omega) (by omega) (by simpa using hK)⟩⟩⟩

/-- The answer of Includes. -/
def icl (c n i before t u a ch0 : Int) (p : List Int) : Bool × Int × Int :=
  if (vr t u a && (vd ch0 && vd before)) = false then (false, 3, -2) else ((vfy c n i ch0 p).1 && decide (ch0 = ch before t u a), (vfy c n i ch0 p).2)

theorem Includes_ok {c n i before t u a ch0 : Int} {p : List Int} {K : Bool → Int → Int → Prop} (hK : K (icl c n i before t u a ch0 p).1 (icl c n i before t u a ch0 p).2.1 (icl c n i before t u a ch0 p).2.2) : L.audit_Includes c n i before t u a ch0 p K := by
  constructor
  unfold L.audit_Includes_B
  unfold icl at hK
  refine inRange_ok ?_
  cases h1 : vr t u a with
  | false =>
    rw [h1, Bool.false_and, if_pos rfl] at hK
    exact cond_t rfl ⟨cond_t rfl hK⟩
  | true =>
    rw [h1, Bool.true_and] at hK
    refine cond_f rfl (isDigest2_ok ?_)
    cases h2 : vd ch0 with
    | false =>
      rw [h2, Bool.false_and, if_pos rfl] at hK
      exact cond_t rfl ⟨cond_t rfl hK⟩
    | true =>
      rw [h2, Bool.true_and] at hK
      refine cond_f rfl (isDigest2_ok ?_)
      cases h3 : vd before with
      | false =>
        rw [h3, if_pos rfl] at hK
        exact ⟨cond_t rfl hK⟩
      | true =>
        rw [h3, if_neg (by simp)] at hK
        refine ⟨cond_f rfl ⟨Verify_ok ?_⟩⟩
        cases h4 : (vfy c n i ch0 p).1 with
        | false =>
          rw [h4, Bool.false_and] at hK
          exact cond_f rfl hK
        | true =>
          rw [h4, Bool.true_and] at hK
          refine cond_t rfl (chain_ok (vd_iff.1 h3) h1 ?_)
          have : (ch0 == ch before t u a) = decide (ch0 = ch before t u a) := bool_iff (by simp)
          rw [this]; exact hK

def chains (l : List R) : List Int := l.map fun r => r.2.2.2
theorem chains_len (l : List R) : (chains l).length = l.length := by simp [chains]
theorem chains_dg {l : List R} (h : logf l = (0, 0)) : ∀ x, x ∈ chains l → dg x := by
  intro x hx
  obtain ⟨r, hr, rfl⟩ := List.mem_map.1 hx
  exact (lf_mem (logf_lf h) r hr).1
theorem chains_getD (l : List R) (i : Nat) : (chains l).getD i 0 = (l.getD i (0, 0, 0, 0)).2.2.2 := by
  unfold chains
  simp only [List.getD_eq_getElem?_getD, List.getElem?_map]
  cases l[i]? <;> rfl

theorem Checkpoint_ok {l : List R} (h : logf l = (0, 0)) {K : Int → Int → Int → Prop} (hK : K (rtF 64 (chains l)) 0 0) : L.audit_Checkpoint l K := by
  have hl := logf_len h
  constructor
  unfold L.audit_Checkpoint_B
  exact Validate_ok (cond_f (fault0 h) (leaves_ok hl (Root_ok (by rw [chains_len]; omega) (chains_dg h) hK)))

theorem Checkpoint_bad {l : List R} (h : logf l ≠ (0, 0)) {K : Int → Int → Int → Prop} (hK : K 0 (logf l).1 (logf l).2) : L.audit_Checkpoint l K := by
  constructor
  unfold L.audit_Checkpoint_B
  exact Validate_ok (cond_t (fault1 h) hK)

theorem AProve_ok {l : List R} {i : Nat} (h : logf l = (0, 0)) (hi : i < l.length) {K : List Int → Int → Int → Prop} (hK : K (pvF 64 (chains l) i) 0 0) : L.audit_Prove l i K := by
  have hl := logf_len h
  constructor
  unfold L.audit_Prove_B
  refine Validate_ok (cond_f (fault0 h) (cond_f ?_ (leaves_ok hl (Prove_ok (by rw [chains_len]; omega) (chains_dg h) (by rw [chains_len]; omega) hK))))
  have : decide ((i : Int) < 0) = false := by simp
  rw [this]; simp; omega

theorem AProve_range {l : List R} {i : Int} (h : logf l = (0, 0)) (hi : i < 0 ∨ l.length ≤ i) {K : List Int → Int → Int → Prop} (hK : K [] 3 (-2)) : L.audit_Prove l i K := by
  constructor
  unfold L.audit_Prove_B
  refine Validate_ok (cond_f (fault0 h) (cond_t ?_ hK))
  cases h1 : decide (i < 0) with
  | true => rfl
  | false => simp at h1 ⊢; omega

theorem AProve_bad {l : List R} {i : Int} (h : logf l ≠ (0, 0)) {K : List Int → Int → Int → Prop} (hK : K [] (logf l).1 (logf l).2) : L.audit_Prove l i K := by
  constructor
  unfold L.audit_Prove_B
  exact Validate_ok (cond_t (fault1 h) hK)

/-- Every record is included by its proof. -/
theorem included {l : List R} {i : Nat} (h : logf l = (0, 0)) (hi : i < l.length) : vfy (rtF 64 (chains l)) l.length i (l.getD i (0, 0, 0, 0)).2.2.2 (pvF 64 (chains l) i) = (true, 0, 0) := by
  have hl := logf_len h
  have hd := chains_dg h
  have hc := convince 64 (l := chains l) (i := i) [] false (by rw [chains_len]; omega) (by rw [chains_len]; exact hi)
  rw [chains_len, chains_getD, List.append_nil] at hc
  unfold vfy
  have h1 : vd (rtF 64 (chains l)) = true := vd_iff.2 (rtF_dg hd)
  have h4 : vd (l.getD i (0, 0, 0, 0)).2.2.2 = true := vd_iff.2 ((lf_mem (logf_lf h) _ (getD_mem _ hi)).1)
  rw [if_neg (by simp [h1]), if_neg (by omega), if_neg (by omega), if_neg (by simp only [h4]; simp), if_neg (by rw [ck_of (Nat.le_trans (pvF_len 64 _ i) (by omega)) (pvF_dg 64 _ i hd)]; simp), hc]
  simp

/-- The chain value before a record. -/
theorem lf_at : ∀ {l : List R} {k : Int} {p : R} (i : Nat), lf k p l = (0, 0) → i < l.length → (l.getD i (0, 0, 0, 0)).2.2.2 = ch (if i = 0 then p else l.getD (i - 1) (0, 0, 0, 0)).2.2.2 (l.getD i (0, 0, 0, 0)).1 (l.getD i (0, 0, 0, 0)).2.1 (l.getD i (0, 0, 0, 0)).2.2.1
  | [], _, _, i, _, hi => by simp at hi
  | r :: l, k, p, 0, h, _ => (lf_cons.1 h).2.2.1
  | r :: l, k, p, i + 1, h, hi => by
    have := lf_at i (lf_cons.1 h).2.2.2 (by simpa using hi)
    rw [if_neg (by omega)]
    simp only [List.getD_cons_succ, Nat.add_sub_cancel]
    cases i with
    | zero => exact this
    | succ i => simpa using this

theorem example_ok {K : Bool → Prop} (hK : K true) : L.law8_auditExample K := by
  have hk : ∀ b, b = true → K b := fun b h => h ▸ hK
  constructor
  unfold L.law8_auditExample_B
  refine Append_ok (by decide) ?_
  rw [if_pos (by decide)]
  have v1 : logf (([] : List R) ++ [(3, 1, 9, ch (last (0, 0, 0, 0) []).2.2.2 3 1 9)]) = (0, 0) := by decide
  have v2 : logf ((([] : List R) ++ [(3, 1, 9, ch (last (0, 0, 0, 0) []).2.2.2 3 1 9)]) ++ [(4, 2, 9, ch (last (0, 0, 0, 0) (([] : List R) ++ [(3, 1, 9, ch (last (0, 0, 0, 0) []).2.2.2 3 1 9)])).2.2.2 4 2 9)]) = (0, 0) := by decide
  refine Append_ok v1 ?_
  rw [if_pos (by decide)]
  refine Query_ok (Checkpoint_ok v1 (Fork_ok ?_))
  have q : qa ((([] : List R) ++ [(3, 1, 9, ch (last (0, 0, 0, 0) []).2.2.2 3 1 9)]) ++ [(4, 2, 9, ch (last (0, 0, 0, 0) (([] : List R) ++ [(3, 1, 9, ch (last (0, 0, 0, 0) []).2.2.2 3 1 9)])).2.2.2 4 2 9)]) 2 0 5 = ([1], 0, 0) := by decide
  have f : fo (([] : List R) ++ [(3, 1, 9, ch (last (0, 0, 0, 0) []).2.2.2 3 1 9)]) ((([] : List R) ++ [(3, 1, 9, ch (last (0, 0, 0, 0) []).2.2.2 3 1 9)]) ++ [(4, 2, 9, ch (last (0, 0, 0, 0) (([] : List R) ++ [(3, 1, 9, ch (last (0, 0, 0, 0) []).2.2.2 3 1 9)])).2.2.2 4 2 9)]) = (1, 0, 0) := by decide
  rw [q, f]
  refine cond_f (by decide) (Equal_ok (by unfold big; decide) ⟨cond_f (by decide) ⟨inB_of (by decide) (by decide), Includes_ok ?_⟩⟩)
  have i1 := included (i := 0) v1 (by decide)
  refine cond_t (by decide) (Validate_ok ?_)
  rw [v2]
  exact hk _ (by decide)

end Au
end Go.Proofs.Ytopibmbmlifkmaa

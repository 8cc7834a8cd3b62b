/-
  The audit log: appending extends, tampering is detected, queries partition. Conditions: none.
-/
import Derived.Test.YtopibmbmlifkmaaAuL
set_option linter.unusedVariables false
set_option maxRecDepth 100000
namespace Go.Proofs.Ytopibmbmlifkmaa
open Eng
namespace Au

theorem fk_app : ∀ (l m : List R), fk l (l ++ m) = l.length
  | [], m => by cases m <;> rfl
  | a :: l, m => by rw [List.cons_append, fk, if_pos rfl, fk_app l m]; rfl

theorem qs_app (user from_ to : Int) : ∀ (i : Nat) (l m : List R), qs user from_ to i (l ++ m) = qs user from_ to i l ++ qs user from_ to (i + l.length) m
  | i, [], m => by simp [qs]
  | i, a :: l, m => by
    rw [List.cons_append, qs, qs, qs_app user from_ to (i + 1) l m]
    rw [show i + 1 + l.length = i + (a :: l).length from by simp; omega]
    split <;> rfl

theorem logf_append {l : List R} {t u a : Int} (hv : logf l = (0, 0)) (ha : apf l t u a = 0) : logf (l ++ [(t, u, a, ch (last (0, 0, 0, 0) l).2.2.2 t u a)]) = (0, 0) ∧ vr t u a = true ∧ l.length < 40 := by
  have hl := logf_len hv
  have h1 : vr t u a = true := by
    cases h : vr t u a with
    | true => rfl
    | false => rw [apf3 h] at ha; cases ha
  have h2 : ¬ t < (last (0, 0, 0, 0) l).1 := fun h => by rw [apf16 h1 h] at ha; cases ha
  have h3 : l.length ≠ 40 := fun h => by rw [apf14 h1 h2 h] at ha; cases ha
  refine ⟨?_, h1, by omega⟩
  unfold logf
  rw [if_neg (by simp; omega)]
  exact lf_snoc.2 ⟨logf_lf hv, by simp [h1, vd_iff.2 (ch_dg _ _ _ _)], h2, rfl⟩

theorem apf_code {l : List R} {t u a : Int} (h : apf l t u a ≠ 0) : (apf l t u a != 0) = true := by simpa using h

theorem extends_true (l : List R) (t u a : Int) (K : Bool → Prop) (hK : K true) : L.law8_AuditAppendExtends l t u a K := by
  have hk : ∀ b, b = true → K b := fun b h => h ▸ hK
  constructor
  unfold L.law8_AuditAppendExtends_B
  by_cases hv : logf l = (0, 0)
  · refine Append_ok hv ?_
    by_cases ha : apf l t u a = 0
    · rw [if_pos ha]
      obtain ⟨hv2, hr, hlt⟩ := logf_append hv ha
      have hr := vr_iff.1 hr
      refine Fork_ok (Query_ok (example_ok (cond_f rfl (cond_f rfl (Validate_ok ?_)))))
      have hf : fo l (l ++ [(t, u, a, ch (last (0, 0, 0, 0) l).2.2.2 t u a)]) = ((l.length : Int), 0, 0) := by
        unfold fo; rw [if_pos hv, if_pos hv2, fk_app]
      have hq : qa (l ++ [(t, u, a, ch (last (0, 0, 0, 0) l).2.2.2 t u a)]) u t t = (qs u t t 0 (l ++ [(t, u, a, ch (last (0, 0, 0, 0) l).2.2.2 t u a)]), 0, 0) := by
        unfold qa; rw [if_pos hv2, if_neg (by omega)]
      rw [hv2, hf, hq]
      refine cond_t ?_ (Has_ok ?_ (hk _ ?_))
      · rw [i64_id (by omega) (by omega)]; simp
      · have := qs_len u t t 0 (l ++ [(t, u, a, ch (last (0, 0, 0, 0) l).2.2.2 t u a)])
        rw [List.length_append] at this
        simp only [List.length_singleton] at this
        show big (qs u t t 0 (l ++ [(t, u, a, ch (last (0, 0, 0, 0) l).2.2.2 t u a)])).length
        unfold big; omega
      · rw [qs_app]
        have : qt u t t (t, u, a, ch (last (0, 0, 0, 0) l).2.2.2 t u a) = true := by simp [qt]
        simp only [cond_true, decide_eq_true_eq]
        rw [qs, if_pos this, qs]
        simp
    · rw [if_neg ha]
      exact Fork_ok (Query_ok (example_ok (cond_f rfl (cond_t (apf_code ha) hK))))
  · exact Append_bad hv (Fork_ok (Query_ok (example_ok (cond_f rfl (cond_t (logf_ne hv) hK)))))

/-- A log with another record in a place: it is the record there that is wrong. -/
theorem lf_set : ∀ {l : List R} {k : Int} {p : R} (i : Nat) (t u a : Int), lf k p l = (0, 0) → i < l.length → (if (vr t u a && vd (l.getD i (0, 0, 0, 0)).2.2.2) = true then ch (if i = 0 then p else l.getD (i - 1) (0, 0, 0, 0)).2.2.2 t u a ≠ (l.getD i (0, 0, 0, 0)).2.2.2 else True) →
    (lf k p (l.set i (t, u, a, (l.getD i (0, 0, 0, 0)).2.2.2))).1 ≠ 0 ∧ (lf k p (l.set i (t, u, a, (l.getD i (0, 0, 0, 0)).2.2.2))).2 = k + i
  | [], _, _, i, _, _, _, _, hi, _ => by simp at hi
  | r :: l, k, p, 0, t, u, a, h, _, hc => by
    have h := lf_cons.1 h
    simp only [List.set_cons_zero, List.getD_cons_zero, if_true] at hc ⊢
    rw [lf]
    by_cases h1 : (vr t u a && vd r.2.2.2) = false
    · rw [if_pos h1]; simp
    · rw [if_neg h1]
      rw [if_pos (by simpa using h1)] at hc
      by_cases h2 : t < p.1
      · rw [if_pos h2]; simp
      · rw [if_neg h2, if_pos (fun e => hc e.symm)]; simp
  | r :: l, k, p, i + 1, t, u, a, h, hi, hc => by
    have h := lf_cons.1 h
    have hi' : i < l.length := by simpa using hi
    have ih := lf_set (k := k + 1) (p := r) i t u a h.2.2.2 hi' (by
      rw [if_neg (show ¬ (i + 1 = 0) by omega)] at hc
      simp only [List.getD_cons_succ, Nat.add_sub_cancel] at hc
      cases i with
      | zero => exact hc
      | succ i => simpa using hc)
    simp only [List.set_cons_succ, List.getD_cons_succ]
    rw [lf, if_neg (by simp [h.1]), if_neg h.2.1, if_neg (by simpa using h.2.2.1)]
    refine ⟨ih.1, ih.2.trans (by omega)⟩

theorem tamper_true (l : List R) (i t u a c : Int) (K : Bool → Prop) (hK : K true) : L.law8_AuditTamperingIsDetected l i t u a c K := by
  have hk : ∀ b, b = true → K b := fun b h => h ▸ hK
  constructor
  unfold L.law8_AuditTamperingIsDetected_B
  refine example_ok (cond_f rfl (LogFault_ok ?_))
  by_cases hv : logf l = (0, 0)
  · have hl := logf_len hv
    rw [hv]
    by_cases hi : i < 0 ∨ (l.length : Int) ≤ i
    · have e : (bif (bif ((0 : Int) != 0) then true else (decide (i < 0))) then true else (decide (i ≥ (l.length : Int)))) = true := by
        cases h1 : decide (i < 0) with
        | true => rfl
        | false => simp at h1 ⊢; omega
      simp only [e]
      exact ⟨fun h => by simp at h, fun h => by simp at h, fun h => by simp at h, hK⟩
    · obtain ⟨n, rfl⟩ : ∃ n : Nat, i = n := ⟨i.toNat, by omega⟩
      have hn : n < l.length := by omega
      have hin : inB (n : Int) l.length := inB_of (by omega) (by omega)
      have e : (bif (bif ((0 : Int) != 0) then true else (decide ((n : Int) < 0))) then true else (decide ((n : Int) ≥ (l.length : Int)))) = false := by
        have : decide ((n : Int) < 0) = false := by simp
        rw [this]; simp; omega
      simp only [e]
      refine ⟨fun _ => hin, fun _ _ => hin, fun _ _ => hin, ?_⟩
      obtain ⟨r, hr⟩ : ∃ r : R, l.getD n (0, 0, 0, 0) = r := ⟨_, rfl⟩
      have hr2 : l.getD (n : Int).toNat (0, (0, (0, 0))) = r := hr
      rw [hr2]
      have hm := lf_mem (logf_lf hv) _ (getD_mem (0, 0, 0, 0) hn)
      rw [hr] at hm
      -- behind the first tests
      have fin : ∀ b : Int, dg b → b = (if n = 0 then ((0, 0, 0, 0) : R) else l.getD (n - 1) (0, 0, 0, 0)).2.2.2 → L.law8_AuditTamperingIsDetected_J1 l n b t u a K := by
        intro b hb he
        have hget : ∀ x : R, (l.set n x).getD n (0, 0, 0, 0) = x := fun x => by
          rw [List.getD_eq_getElem?_getD, List.getElem?_set_self hn]; rfl
        have hs := lf_set (k := 0) (p := (0, 0, 0, 0)) n t u a (logf_lf hv) hn
        rw [hr, ← he] at hs
        constructor
        unfold L.law8_AuditTamperingIsDetected_J1_B
        simp only [List.nil_append, Int.toNat_natCast, List.length_set, hget, List.set_set, hr]
        refine ⟨fits_of (by simp; omega), hin, hin, hin, hin, RecordValid_ok ?_⟩
        have hval : (vr t u a && vd r.2.2.2) = false ∨ ch b t u a ≠ r.2.2.2 → L.law8_AuditTamperingIsDetected_J2 n (l.set n (t, u, a, r.2.2.2)) K := by
          intro h
          have hs := hs (by
            split
            · next h1 => rcases h with h | h
                         · rw [h] at h1; cases h1
                         · exact h
            · trivial)
          refine ⟨Validate_ok ?_⟩
          have hlf : logf (l.set n (t, u, a, r.2.2.2)) = lf 0 (0, 0, 0, 0) (l.set n (t, u, a, r.2.2.2)) := by
            unfold logf; rw [if_neg (by simp; omega)]
          rw [hlf, hs.2, Int.zero_add]
          refine hk _ ?_
          have : ((lf 0 (0, 0, 0, 0) (l.set n (t, u, a, r.2.2.2))).1 != 0) = true := by simpa using hs.1
          rw [this]; simp
        cases hvr : (vr t u a && vd r.2.2.2) with
        | false => exact ⟨fun _ => hin, cond_f rfl ⟨cond_f rfl (hval (.inl hvr))⟩⟩
        | true =>
          have hvr' := hvr
          simp only [Bool.and_eq_true] at hvr'
          refine ⟨fun _ => hin, cond_t rfl (Chain_ok hb hvr'.1 ⟨hin, ⟨?_⟩⟩)⟩
          by_cases hc : ch b t u a = r.2.2.2
          · exact cond_t (by simpa using hc) hK
          · exact cond_f (by simpa using hc) (hval (.inr hc))
      cases hsame : (bif (bif ((r.1) == t) then ((r.2.1) == u) else false) then ((r.2.2.1) == a) else false) with
      | true => exact cond_t rfl hK
      | false =>
        refine cond_f rfl ?_
        by_cases h0 : n = 0
        · subst h0
          exact cond_f (by simp) (fin 0 dg0 rfl)
        · refine cond_t (by simp; omega) ?_
          rw [i64_id (by omega) (by omega)]
          refine ⟨inB_of (by omega) (by omega), ?_⟩
          rw [show ((n : Int) - 1).toNat = n - 1 from by omega]
          exact fin _ (lf_mem (logf_lf hv) _ (getD_mem (0, 0, 0, 0) (show n - 1 < l.length by omega))).1 (by rw [if_neg h0])
  · have e : (bif (bif ((logf l).1 != 0) then true else (decide (i < 0))) then true else (decide (i ≥ (l.length : Int)))) = true := by rw [logf_ne hv]; rfl
    simp only [e]
    exact ⟨fun h => by simp at h, fun h => by simp at h, fun h => by simp at h, hK⟩

/-- The numbers of records by users. -/
theorem qs_sub {user from_ to : Int} : ∀ {i : Nat} {l : List R} {x : Int}, x ∈ qs user from_ to i l → x ∈ qs (-1) from_ to i l
  | i, [], x, h => by simp [qs] at h
  | i, r :: l, x, h => by
    rw [qs] at h ⊢
    split at h
    · next hq =>
      have : qt (-1) from_ to r = true := by simp [qt] at hq ⊢; exact hq.2
      rw [if_pos this]
      rcases List.mem_cons.1 h with rfl | h
      · simp
      · exact List.mem_cons.2 (.inr (qs_sub h))
    · have := qs_sub h
      split
      · exact List.mem_cons.2 (.inr this)
      · exact this

def sumq (l : List R) (from_ to : Int) : Nat → Nat
  | 0 => 0
  | n + 1 => sumq l from_ to n + (qs n from_ to 0 l).length

def cnt1 (u : Int) : Nat → Nat
  | 0 => 0
  | n + 1 => cnt1 u n + (if u = n then 1 else 0)

theorem cnt1_one {u : Int} : ∀ {n : Nat}, 0 ≤ u → cnt1 u n = if u < n then 1 else 0
  | 0, h => by rw [cnt1, if_neg (by omega)]
  | n + 1, h => by
    rw [cnt1, cnt1_one h]
    by_cases h1 : u < n
    · rw [if_pos h1, if_neg (by omega), if_pos (by omega)]
    · by_cases h2 : u = n
      · rw [if_neg h1, if_pos h2, if_pos (by omega)]
      · rw [if_neg h1, if_neg h2, if_neg (by omega)]

def lenq (l : List R) (i : Nat) (from_ to : Int) : Nat → Nat
  | 0 => 0
  | n + 1 => lenq l i from_ to n + (qs n from_ to i l).length

theorem lenq_cons (r : R) (l : List R) (i : Nat) (from_ to : Int) : ∀ n, lenq (r :: l) i from_ to n = lenq l (i + 1) from_ to n + (if from_ ≤ r.1 ∧ r.1 ≤ to then cnt1 r.2.1 n else 0)
  | 0 => by simp [lenq, cnt1]
  | n + 1 => by
    rw [lenq, lenq, lenq_cons r l i from_ to n, qs, cnt1]
    by_cases h : from_ ≤ r.1 ∧ r.1 ≤ to
    · by_cases hu : r.2.1 = n
      · have : qt n from_ to r = true := by simp [qt, h, hu]
        rw [if_pos this, if_pos h, if_pos h, if_pos hu]; simp; omega
      · have : qt n from_ to r = false := by simp only [qt, decide_eq_false_iff_not]; omega
        rw [if_neg (show ¬ qt n from_ to r = true by simp [this]), if_pos h, if_pos h, if_neg hu]; omega
    · have : qt n from_ to r = false := by simp only [qt, decide_eq_false_iff_not]; intro h2; exact h h2.2
      rw [if_neg (show ¬ qt n from_ to r = true by simp [this]), if_neg h, if_neg h]; omega

theorem lenq_all : ∀ {l : List R} {i : Nat} {from_ to : Int}, (∀ r, r ∈ l → vr r.1 r.2.1 r.2.2.1 = true) → lenq l i from_ to 8 = (qs (-1) from_ to i l).length
  | [], i, from_, to, _ => by simp [lenq, qs]
  | r :: l, i, from_, to, h => by
    have hr := vr_iff.1 (h r (by simp))
    rw [lenq_cons, lenq_all (fun x hx => h x (by simp [hx])), qs]
    by_cases hq : from_ ≤ r.1 ∧ r.1 ≤ to
    · have : qt (-1) from_ to r = true := by simp [qt, hq]
      rw [if_pos hq, if_pos this, cnt1_one hr.2.2.1, if_pos (by omega)]; simp
    · have : qt (-1) from_ to r = false := by simp only [qt, decide_eq_false_iff_not]; intro h2; exact hq h2.2
      rw [if_neg hq, if_neg (by simp [this])]; rfl

/-- The times do not fall. -/
theorem lf_times : ∀ {l : List R} {k : Int} {p : R}, lf k p l = (0, 0) → (∀ r, r ∈ l → p.1 ≤ r.1) ∧ l.Pairwise (fun a b => a.1 ≤ b.1)
  | [], _, _, _ => ⟨fun r hr => by simp at hr, List.Pairwise.nil⟩
  | a :: l, k, p, h => by
    have h := lf_cons.1 h
    have ih := lf_times h.2.2.2
    refine ⟨fun r hr => ?_, List.pairwise_cons.2 ⟨ih.1, ih.2⟩⟩
    rcases List.mem_cons.1 hr with rfl | hr
    · have := h.2.1; omega
    · have := ih.1 r hr; have := h.2.1; omega

theorem qs_none {user from_ to : Int} : ∀ {i : Nat} {l : List R}, (∀ r, r ∈ l → qt user from_ to r = false) → qs user from_ to i l = []
  | i, [], _ => rfl
  | i, r :: l, h => by
    rw [qs, if_neg (by simp [h r (by simp)])]
    exact qs_none fun x hx => h x (by simp [hx])

/-- Two adjacent ranges of times. -/
theorem qs_split {from_ mid to : Int} (h1 : from_ ≤ mid) (h2 : mid < to) : ∀ {i : Nat} {l : List R}, l.Pairwise (fun a b => a.1 ≤ b.1) → qs (-1) from_ mid i l ++ qs (-1) (mid + 1) to i l = qs (-1) from_ to i l
  | i, [], _ => rfl
  | i, r :: l, hp => by
    have hp := List.pairwise_cons.1 hp
    have ih := qs_split h1 h2 (i := i + 1) hp.2
    rw [qs, qs, qs]
    by_cases hm : r.1 ≤ mid
    · have e2 : qt (-1) (mid + 1) to r = false := by simp [qt]; omega
      have e1 : qt (-1) from_ mid r = qt (-1) from_ to r := by
        apply bool_iff; simp [qt]; omega
      rw [if_neg (by simp [e2] : ¬ qt (-1) (mid + 1) to r = true), e1]
      split
      · rw [List.cons_append, ih]
      · exact ih
    · have e0 : ∀ x, x ∈ r :: l → qt (-1) from_ mid x = false := by
        intro x hx
        have : r.1 ≤ x.1 := by
          rcases List.mem_cons.1 hx with rfl | hx
          · omega
          · exact hp.1 x hx
        simp [qt]; omega
      have e3 : qs (-1) from_ mid (i + 1) l = [] := qs_none fun x hx => e0 x (by simp [hx])
      rw [if_neg (by simp [e0 r (by simp)] : ¬ qt (-1) from_ mid r = true), e3, List.nil_append]
      rw [e3, List.nil_append] at ih
      rw [ih]
      have e1 : qt (-1) (mid + 1) to r = qt (-1) from_ to r := by
        apply bool_iff; simp [qt]; omega
      rw [e1]

theorem part2_loop {m q : List Int} (hm : big m.length) (hq : q.length ≤ 40) (hsub : ∀ x, x ∈ q → x ∈ m) {Q : Prop} (hQ : Q) {K : Bool → Prop} : ∀ (fu i : Nat), i ≤ q.length → q.length - i < fu → L.law8_AuditQueriesPartition_L2_R m q fu i Q K
  | 0, i, _, h => by omega
  | fu + 1, i, hi, h => by
    show L.law8_AuditQueriesPartition_L2_b m q i _ _ _
    unfold L.law8_AuditQueriesPartition_L2_b
    rcases Nat.lt_or_ge i q.length with g | g
    · refine cond_t (by simp; omega) ⟨inB_of (by omega) (by omega), Has_ok hm ?_⟩
      have : decide (q.getD (i : Int).toNat 0 ∈ m) = true := by rw [decide_eq_true_eq]; exact hsub _ (getD_mem 0 g)
      rw [this]
      refine cond_f rfl ?_
      rw [i64_id (by omega) (by omega)]
      exact part2_loop hm hq hsub hQ fu (i + 1) (by omega) (by omega)
    · exact cond_f (by simp; omega) hQ

theorem part1_loop {l : List R} {from_ to : Int} (hv : logf l = (0, 0)) {Kx : Int → Prop} {K : Bool → Prop} (hK : Kx (lenq l 0 from_ to 8 : Nat)) : ∀ (fu n : Nat), n ≤ 8 → 8 - n < fu → lenq l 0 from_ to n ≤ 400 → L.law8_AuditQueriesPartition_L1_R l from_ to (qs (-1) from_ to 0 l) fu (lenq l 0 from_ to n : Nat) n Kx K
  | 0, n, _, h, _ => by omega
  | fu + 1, n, hn, h, hs => by
    have hl := logf_len hv
    show L.law8_AuditQueriesPartition_L1_b l from_ to _ _ n _ _ _
    unfold L.law8_AuditQueriesPartition_L1_b
    rcases Nat.lt_or_ge n 8 with g | g
    · have hq : qa l n from_ to = (qs n from_ to 0 l, 0, 0) := by unfold qa; rw [if_pos hv, if_neg (by omega)]
      have hlen := qs_len n from_ to 0 l
      have hlen2 := qs_len (-1) from_ to 0 l
      refine cond_t (by simp; omega) (Query_ok ?_)
      rw [hq]
      dsimp only
      refine cond_f rfl ⟨⟨_, part2_loop (by unfold big; omega) (by omega) (fun x hx => qs_sub hx) ?_ ((qs n from_ to 0 l).length + 1) 0 (by omega) (by omega)⟩⟩
      rw [i64_id (by omega) (by omega), i64_id (by omega) (by omega)]
      have hle : lenq l 0 from_ to (n + 1) ≤ 400 := by
        have hmono : ∀ k j, lenq l 0 from_ to k ≤ lenq l 0 from_ to (k + j) := by
          intro k j
          induction j with
          | zero => exact Nat.le_refl _
          | succ j ih => exact Nat.le_trans ih (by rw [Nat.add_succ, lenq]; omega)
        have h8 := hmono (n + 1) (8 - (n + 1))
        rw [show n + 1 + (8 - (n + 1)) = 8 from by omega, lenq_all (fun r hr => (lf_mem (logf_lf hv) r hr).2)] at h8
        omega
      have := part1_loop (K := K) hv hK fu (n + 1) (by omega) (by omega) hle
      rw [lenq] at this
      exact this
    · have : n = 8 := by omega
      subst this
      exact cond_f (by decide) hK

theorem part_true (l : List R) (from_ mid to : Int) (hm : mid ≤ 9223372036854775807) (h0 : -9223372036854775808 ≤ mid) (hto : to ≤ 9223372036854775807) (K : Bool → Prop) (hK : K true) : L.law8_AuditQueriesPartition l from_ mid to K := by
  have hk : ∀ b, b = true → K b := fun b h => h ▸ hK
  constructor
  unfold L.law8_AuditQueriesPartition_B
  refine Query_ok (example_ok (cond_f rfl ?_))
  by_cases hv : logf l = (0, 0)
  · have hl := logf_len hv
    have hq : ∀ f t, qa l (-1) f t = (qs (-1) f t 0 l, 0, 0) := fun f t => by unfold qa; rw [if_pos hv, if_neg (by omega)]
    have hall := lenq_all (l := l) (i := 0) (from_ := from_) (to := to) (fun r hr => (lf_mem (logf_lf hv) r hr).2)
    rw [hq]
    refine cond_f rfl ⟨⟨9, part1_loop (l := l) (from_ := from_) (to := to) hv ?_ 9 0 (by omega) (by omega) (by simp [lenq])⟩⟩
    rw [hall]
    simp only [bne_self_eq_false, cond_false]
    have e : (bif (decide (mid < from_)) then true else (decide (mid ≥ to))) = decide (mid < from_ ∨ to ≤ mid) := bool_iff (by simp)
    rw [e]
    by_cases h : mid < from_ ∨ to ≤ mid
    · rw [decide_eq_true h]
      exact cond_t rfl (hk _ (by simp))
    · rw [decide_eq_false h]
      refine cond_f rfl (Query_ok (Query_ok ?_))
      rw [hq, hq, i64_id (by omega) (by omega)]
      have l1 := qs_len (-1) from_ mid 0 l
      have l2 := qs_len (-1) (mid + 1) to 0 l
      have hs := qs_split (from_ := from_) (mid := mid) (to := to) (by omega) (by omega) (i := 0) (lf_times (logf_lf hv)).2
      refine cond_t rfl ⟨fits_of (by simp; omega), fits_of (by simp; omega), ?_⟩
      rw [List.nil_append, hs]
      have l3 := qs_len (-1) from_ to 0 l
      exact Equal_ok (by unfold big; omega) (hk _ (by simp))
  · have hq : qa l (-1) from_ to = ([], logf l) := by unfold qa; rw [if_neg hv]
    rw [hq]
    exact cond_t (logf_ne hv) hK

end Au

theorem AuditAppendExtends_true (xs : ArgDen [(false, (.slice (.pair (.int .i64) (.pair (.int .i64) (.pair (.int .i64) (.int .i64)))))), (false, (.int .i64)), (false, (.int .i64)), (false, (.int .i64))]) (hw : WfAll _ xs) (K : Bool → Prop) (hK : K true) : L.law8_AuditAppendExtends xs.1 xs.2.1 xs.2.2.1 xs.2.2.2.1 K :=
  Au.extends_true _ _ _ _ K hK

theorem AuditTamperingIsDetected_true (xs : ArgDen [(false, (.slice (.pair (.int .i64) (.pair (.int .i64) (.pair (.int .i64) (.int .i64)))))), (false, (.int .i64)), (true, (.pair (.int .i64) (.pair (.int .i64) (.pair (.int .i64) (.int .i64)))))]) (hw : WfAll _ xs) (K : Bool → Prop) (hK : K true) : L.law8_AuditTamperingIsDetected xs.1 xs.2.1 xs.2.2.1.1 xs.2.2.1.2.1 xs.2.2.1.2.2.1 xs.2.2.1.2.2.2 K :=
  Au.tamper_true _ _ _ _ _ _ K hK

theorem AuditQueriesPartition_true (xs : ArgDen [(false, (.slice (.pair (.int .i64) (.pair (.int .i64) (.pair (.int .i64) (.int .i64)))))), (false, (.int .i64)), (false, (.int .i64)), (false, (.int .i64))]) (hw : WfAll _ xs) (K : Bool → Prop) (hK : K true) : L.law8_AuditQueriesPartition xs.1 xs.2.1 xs.2.2.1 xs.2.2.2.1 K :=
  Au.part_true _ _ _ _ hw.2.2.1.2 hw.2.2.1.1 hw.2.2.2.1.2 K hK
end Go.Proofs.Ytopibmbmlifkmaa

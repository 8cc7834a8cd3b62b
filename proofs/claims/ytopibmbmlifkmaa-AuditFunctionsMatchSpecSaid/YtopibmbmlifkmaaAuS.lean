/-
  What the functions of the audit log compute: validation, appending, queries, forks. Conditions: none.
-/
import Derived.Test.YtopibmbmlifkmaaAuM
set_option linter.unusedVariables false
namespace Go.Proofs.Ytopibmbmlifkmaa
open Eng
namespace Au

/-- The first fault of a log behind a record. -/
def lf : Int → R → List R → Int × Int
  | _, _, [] => (0, 0)
  | i, p, r :: l => if (vr r.1 r.2.1 r.2.2.1 && vd r.2.2.2) = false then (3, i) else if r.1 < p.1 then (5, i) else if r.2.2.2 ≠ ch p.2.2.2 r.1 r.2.1 r.2.2.1 then (18, i) else lf (i + 1) r l

def logf (l : List R) : Int × Int := if 40 < l.length then (2, -1) else lf 0 (0, 0, 0, 0) l

theorem LogFault_loop {l : List R} (hl : l.length ≤ 40) {Kx : Int → Int → Int → Int → Prop} {K : Int → Int → Prop} (hx : K 0 0 → ∀ a b c d, Kx a b c d) : ∀ (fu i : Nat) (p : R), i ≤ l.length → l.length - i < fu → dg p.2.2.2 → K (lf i p (l.drop i)).1 (lf i p (l.drop i)).2 →
    L.ref8_LogFault_L1_R l fu i p.1 p.2.1 p.2.2.1 p.2.2.2 Kx (fun m m1 _ _ _ _ => K m m1)
  | 0, i, p, _, h, _, _ => by omega
  | fu + 1, i, p, hi, h, hp, hK => by
    show L.ref8_LogFault_L1_b l i p.1 p.2.1 p.2.2.1 p.2.2.2 _ _ _
    unfold L.ref8_LogFault_L1_b
    rcases Nat.lt_or_ge i l.length with g | g
    · have hin : inB (i : Int) l.length := inB_of (by omega) (by omega)
      rw [drop_cons ((0, 0, 0, 0) : R) g] at hK
      obtain ⟨r, hr⟩ : ∃ r : R, l.getD i (0, 0, 0, 0) = r := ⟨_, rfl⟩
      rw [hr] at hK
      have hr2 : l.getD (i : Int).toNat (0, (0, (0, 0))) = r := hr
      rw [hr2]
      refine cond_t (by simp; omega) ⟨hin, RecordValid_ok ?_⟩
      rw [lf] at hK
      cases hv : (vr r.1 r.2.1 r.2.2.1 && vd r.2.2.2) with
      | false =>
        rw [hv, if_pos rfl] at hK
        exact cond_t rfl (Fault_ok hK)
      | true =>
        rw [hv, if_neg (by simp)] at hK
        simp only [Bool.and_eq_true] at hv
        refine cond_f rfl ⟨hin, ?_⟩
        by_cases ht : r.1 < p.1
        · rw [if_pos ht] at hK
          exact cond_t (by simpa using ht) (Fault_ok hK)
        · rw [if_neg ht] at hK
          refine cond_f (by simpa using ht) ⟨hin, hin, Chain_ok hp hv.1 ?_⟩
          by_cases hc : r.2.2.2 = ch p.2.2.2 r.1 r.2.1 r.2.2.1
          · rw [if_neg (by simpa using hc)] at hK
            refine cond_f (by simpa using hc) ⟨hin, ?_⟩
            rw [i64_id (by omega) (by omega)]
            exact LogFault_loop hl hx fu (i + 1) r (by omega) (by omega) (vd_iff.1 hv.2) hK
          · rw [if_pos hc] at hK
            exact cond_t (by simpa using hc) (Fault_ok hK)
    · rw [List.drop_eq_nil_of_le g] at hK
      exact cond_f (by simp; omega) (hx hK _ _ _ _)

theorem LogFault_ok {l : List R} {K : Int → Int → Prop} (hK : K (logf l).1 (logf l).2) : L.ref8_LogFault l K := by
  constructor
  unfold L.ref8_LogFault_B
  unfold logf at hK
  by_cases h : 40 < l.length
  · rw [if_pos h] at hK
    exact cond_t (by simp; omega) (Fault_ok hK)
  · rw [if_neg h] at hK
    exact cond_f (by simp; omega) ⟨⟨l.length + 1, LogFault_loop (by omega) (fun h _ _ _ _ => Fault_ok h) _ 0 (0, 0, 0, 0) (by omega) (by omega) (by unfold dg; decide) hK⟩⟩

theorem Validate_loop {l : List R} (hl : l.length ≤ 40) {K : Int → Int → Prop} : ∀ (fu i : Nat) (p : R), i ≤ l.length → l.length - i < fu → dg p.2.2.2 → K (lf i p (l.drop i)).1 (lf i p (l.drop i)).2 →
    L.audit_Validate_L1_R l (l.length : Int) fu i p.1 p.2.1 p.2.2.1 p.2.2.2 (fun _ _ _ _ => K 0 0) (fun m m1 _ _ _ _ => K m m1)
  | 0, i, p, _, h, _, _ => by omega
  | fu + 1, i, p, hi, h, hp, hK => by
    show L.audit_Validate_L1_b l (l.length : Int) i p.1 p.2.1 p.2.2.1 p.2.2.2 _ _ _
    unfold L.audit_Validate_L1_b
    rcases Nat.lt_or_ge i l.length with g | g
    · have hin : inB (i : Int) l.length := inB_of (by omega) (by omega)
      rw [drop_cons ((0, 0, 0, 0) : R) g] at hK
      obtain ⟨r, hr⟩ : ∃ r : R, l.getD i (0, 0, 0, 0) = r := ⟨_, rfl⟩
      rw [hr] at hK
      have hr2 : l.getD (i : Int).toNat (0, (0, (0, 0))) = r := hr
      rw [hr2]
      refine cond_t (by simp; omega) ⟨hin, inRange_ok ?_⟩
      rw [lf] at hK
      cases hv : vr r.1 r.2.1 r.2.2.1 with
      | false =>
        rw [hv, Bool.false_and, if_pos rfl] at hK
        exact cond_t rfl ⟨cond_t rfl ⟨cond_t (by decide) hK⟩⟩
      | true =>
        rw [hv, Bool.true_and] at hK
        refine cond_f rfl (isDigest2_ok ⟨?_⟩)
        unfold L.audit_Validate_J4_B
        cases hd : vd r.2.2.2 with
        | false =>
          rw [hd, if_pos rfl] at hK
          exact cond_t rfl ⟨cond_t (by decide) hK⟩
        | true =>
          rw [hd, if_neg (by simp)] at hK
          refine cond_f rfl ?_
          by_cases ht : r.1 < p.1
          · rw [if_pos ht] at hK
            exact cond_t (by simpa using ht) ⟨cond_t (by decide) hK⟩
          · rw [if_neg ht] at hK
            refine cond_f (by simpa using ht) (chain_ok hp hv ?_)
            by_cases hc : r.2.2.2 = ch p.2.2.2 r.1 r.2.1 r.2.2.1
            · rw [if_neg (by simpa using hc)] at hK
              refine cond_f (by simpa using hc) ⟨cond_f (by decide) ?_⟩
              rw [i64_id (by omega) (by omega)]
              exact Validate_loop hl fu (i + 1) r (by omega) (by omega) (vd_iff.1 hd) hK
            · rw [if_pos hc] at hK
              exact cond_t (by simpa using hc) ⟨cond_t (by decide) hK⟩
    · rw [List.drop_eq_nil_of_le g] at hK
      exact cond_f (by simp; omega) hK

theorem Validate_ok {l : List R} {K : Int → Int → Prop} (hK : K (logf l).1 (logf l).2) : L.audit_Validate l K := by
  constructor
  unfold L.audit_Validate_B
  unfold logf at hK
  by_cases h : 40 < l.length
  · rw [if_pos h] at hK
    exact cond_t (by simp; omega) hK
  · rw [if_neg h] at hK
    exact cond_f (by simp; omega) ⟨⟨l.length + 1, Validate_loop (by omega) _ 0 (0, 0, 0, 0) (by omega) (by omega) (by unfold dg; decide) hK⟩⟩

theorem logf_len {l : List R} (h : logf l = (0, 0)) : l.length ≤ 40 := by
  unfold logf at h
  split at h
  · cases h
  · omega

theorem fault0 {a b : Int} (h : (a, b) = ((0, 0) : Int × Int)) : (!((a == 0) && ((b == 0) && true))) = false := by cases h; rfl
theorem fault1 {a b : Int} (h : (a, b) ≠ ((0, 0) : Int × Int)) : (!((a == 0) && ((b == 0) && true))) = true := by
  by_cases h1 : a = 0
  · by_cases h2 : b = 0
    · exact absurd (by rw [h1, h2]) h
    · simp [h2]
  · simp [h1]

/-- A log's members, and what each says of the one before. -/
theorem lf_code : ∀ {l : List R} {i : Int} {p : R}, (lf i p l).1 = 0 → lf i p l = (0, 0)
  | [], i, p, _ => rfl
  | r :: l, i, p, h => by
    rw [lf] at h ⊢
    split at h
    · cases h
    · next h1 =>
      rw [if_neg h1]
      split at h
      · cases h
      · next h2 =>
        rw [if_neg h2]
        split at h
        · cases h
        · next h3 => rw [if_neg h3]; exact lf_code h

theorem logf_code {l : List R} (h : (logf l).1 = 0) : logf l = (0, 0) := by
  unfold logf at h ⊢
  split at h
  · cases h
  · next hl => rw [if_neg hl]; exact lf_code h

theorem logf_ne {l : List R} (h : logf l ≠ (0, 0)) : ((logf l).1 != 0) = true := by
  rw [bne_iff_ne]; exact fun e => h (logf_code e)

theorem lf_cons {i : Int} {p r : R} {l : List R} : lf i p (r :: l) = (0, 0) ↔ (vr r.1 r.2.1 r.2.2.1 && vd r.2.2.2) = true ∧ ¬ r.1 < p.1 ∧ r.2.2.2 = ch p.2.2.2 r.1 r.2.1 r.2.2.1 ∧ lf (i + 1) r l = (0, 0) := by
  rw [lf]
  by_cases h1 : (vr r.1 r.2.1 r.2.2.1 && vd r.2.2.2) = false
  · rw [if_pos h1]; simp [h1]
  · rw [if_neg h1]
    have h1' : (vr r.1 r.2.1 r.2.2.1 && vd r.2.2.2) = true := by simpa using h1
    by_cases h2 : r.1 < p.1
    · rw [if_pos h2]; simp [h2]
    · rw [if_neg h2]
      by_cases h3 : r.2.2.2 = ch p.2.2.2 r.1 r.2.1 r.2.2.1
      · rw [if_neg (by simpa using h3)]; exact ⟨fun h => ⟨h1', h2, h3, h⟩, fun h => h.2.2.2⟩
      · rw [if_pos h3]; simp [h3]

/-- The last record of a log. -/
def last (p : R) : List R → R
  | [] => p
  | r :: l => last r l

theorem last_dg : ∀ {l : List R} {i : Int} {p : R}, dg p.2.2.2 → lf i p l = (0, 0) → dg (last p l).2.2.2
  | [], i, p, hp, _ => hp
  | r :: l, i, p, hp, h => by
    have h := lf_cons.1 h
    simp only [Bool.and_eq_true] at h
    exact last_dg (p := r) (vd_iff.1 h.1.2) h.2.2.2

theorem lf_snoc : ∀ {l : List R} {i : Int} {p r : R}, lf i p (l ++ [r]) = (0, 0) ↔ lf i p l = (0, 0) ∧ (vr r.1 r.2.1 r.2.2.1 && vd r.2.2.2) = true ∧ ¬ r.1 < (last p l).1 ∧ r.2.2.2 = ch (last p l).2.2.2 r.1 r.2.1 r.2.2.1
  | [], i, p, r => by
    rw [List.nil_append, lf_cons]
    simp [lf, last]
  | a :: l, i, p, r => by
    rw [List.cons_append, lf_cons, lf_cons, lf_snoc, last]
    constructor
    · rintro ⟨h1, h2, h3, h4, h5, h6, h7⟩; exact ⟨⟨h1, h2, h3, h4⟩, h5, h6, h7⟩
    · rintro ⟨⟨h1, h2, h3, h4⟩, h5, h6, h7⟩; exact ⟨h1, h2, h3, h4, h5, h6, h7⟩

theorem last_getD : ∀ {l : List R} {p d : R}, l ≠ [] → last p l = l.getD (l.length - 1) d
  | [], _, _, h => absurd rfl h
  | [a], p, d, _ => rfl
  | a :: b :: l, p, d, _ => by
    rw [last, last_getD (p := a) (d := d) (by simp)]
    simp

/-- The beginning of a log is a log. -/
theorem lf_take : ∀ {l : List R} {i : Int} {p : R} (n : Nat), lf i p l = (0, 0) → lf i p (l.take n) = (0, 0)
  | [], i, p, n, h => by simpa using h
  | r :: l, i, p, 0, h => rfl
  | r :: l, i, p, n + 1, h => by
    have h := lf_cons.1 h
    rw [List.take_succ_cons, lf_cons]
    exact ⟨h.1, h.2.1, h.2.2.1, lf_take n h.2.2.2⟩

theorem lf_mem : ∀ {l : List R} {i : Int} {p : R}, lf i p l = (0, 0) → ∀ r, r ∈ l → dg r.2.2.2 ∧ vr r.1 r.2.1 r.2.2.1 = true
  | [], i, p, _, r, hr => by simp at hr
  | a :: l, i, p, h, r, hr => by
    have h := lf_cons.1 h
    simp only [Bool.and_eq_true] at h
    rcases List.mem_cons.1 hr with rfl | hr
    · exact ⟨vd_iff.1 h.1.2, h.1.1⟩
    · exact lf_mem h.2.2.2 r hr

theorem logf_lf {l : List R} (h : logf l = (0, 0)) : lf 0 (0, 0, 0, 0) l = (0, 0) := by
  unfold logf at h
  split at h
  · cases h
  · exact h

theorem Clone_ok {s : List R} (h : s.length ≤ 1000) {K : List R → Prop} (hK : K s) : L.api_Record s K := by
  constructor
  unfold L.api_Record_B
  intro b hb
  cases b with
  | true =>
    refine cond_t rfl ?_
    have : s = [] := by
      apply List.eq_nil_of_length_eq_zero
      exact Classical.byContradiction fun e => by have := hb e; cases this
    rw [this] at hK; exact hK
  | false => exact cond_f rfl ⟨fits_of (by simp; omega), hK⟩

/-- The fault of appending. -/
def apf (l : List R) (t u a : Int) : Int := if vr t u a = false then 3 else if t < (last (0, 0, 0, 0) l).1 then 16 else if l.length = 40 then 14 else 0

theorem apf3 {l : List R} {t u a : Int} (h : vr t u a = false) : apf l t u a = 3 := by unfold apf; rw [if_pos h]
theorem apf16 {l : List R} {t u a : Int} (h : vr t u a = true) (h2 : t < (last (0, 0, 0, 0) l).1) : apf l t u a = 16 := by unfold apf; rw [if_neg (by simp [h]), if_pos h2]
theorem apf14 {l : List R} {t u a : Int} (h : vr t u a = true) (h2 : ¬ t < (last (0, 0, 0, 0) l).1) (h3 : l.length = 40) : apf l t u a = 14 := by unfold apf; rw [if_neg (by simp [h]), if_neg h2, if_pos h3]
theorem apf0 {l : List R} {t u a : Int} (h : vr t u a = true) (h2 : ¬ t < (last (0, 0, 0, 0) l).1) (h3 : l.length ≠ 40) : apf l t u a = 0 := by unfold apf; rw [if_neg (by simp [h]), if_neg h2, if_neg h3]

theorem Append_bad {l : List R} {t u a : Int} (hv : logf l ≠ (0, 0)) {K : List R → Int → Int → Prop} (hK : K [] (logf l).1 (logf l).2) : L.audit_Append l t u a K := by
  constructor
  unfold L.audit_Append_B
  exact Validate_ok (cond_t (fault1 hv) hK)

theorem Append_ok {l : List R} {t u a : Int} (hv : logf l = (0, 0)) {K : List R → Int → Int → Prop}
    (hK : if apf l t u a = 0 then K (l ++ [(t, u, a, ch (last (0, 0, 0, 0) l).2.2.2 t u a)]) 0 0 else K [] (apf l t u a) (-2)) : L.audit_Append l t u a K := by
  have hlen := logf_len hv
  have hlast := last_dg (p := (0, 0, 0, 0)) (by unfold dg; decide) (logf_lf hv)
  constructor
  unfold L.audit_Append_B
  refine Validate_ok (cond_f (fault0 hv) ?_)
  -- the rest is the same for both kinds of log
  have fin : ∀ r : Int, ∀ K' : List R → Prop, K' (l ++ [(t, u, a, r)]) → L.api_Record l (fun r2 => fits (r2.length + ([(t, (u, (a, r)))] : List R).length) ∧ K' (r2 ++ [(t, (u, (a, r)))])) := fun r K' h =>
    Clone_ok (by omega) ⟨fits_of (by simp; omega), h⟩
  by_cases hne : l = []
  · subst hne
    refine cond_f (by simp) (inRange_ok ?_)
    cases h1 : vr t u a with
    | false => rw [apf3 h1, if_neg (by decide)] at hK; exact cond_t rfl (cond_t (by decide) hK)
    | true =>
      have hvr := vr_iff.1 h1
      rw [apf0 h1 (by show ¬ t < 0; omega) (by simp), if_pos rfl] at hK
      refine cond_f rfl (cond_f (by simp; omega) (cond_f (by simp) (cond_f (by decide) (chain_ok (by unfold dg; decide) h1 ?_))))
      exact ⟨fin _ (fun x => K x 0 0) hK, fin _ (fun x => K x 0 0) hK, fin _ (fun x => K x 0 0) hK⟩
  · have hpos : 0 < l.length := List.length_pos_iff.2 hne
    refine cond_t (by simp; omega) ?_
    rw [i64_id (by omega) (by omega)]
    refine ⟨inB_of (by omega) (by omega), inRange_ok ?_⟩
    have e : ((l.length : Int) - 1).toNat = l.length - 1 := by omega
    rw [e, ← last_getD (p := (0, 0, 0, 0)) hne]
    cases h1 : vr t u a with
    | false => rw [apf3 h1, if_neg (by decide)] at hK; exact cond_t rfl (cond_t (by decide) hK)
    | true =>
      refine cond_f rfl ?_
      by_cases h2 : t < (last (0, 0, 0, 0) l).1
      · rw [apf16 h1 h2, if_neg (by decide)] at hK
        exact cond_t (by simpa using h2) (cond_t (by decide) hK)
      · refine cond_f (by simpa using h2) ?_
        by_cases h3 : l.length = 40
        · rw [apf14 h1 h2 h3, if_neg (by decide)] at hK
          exact cond_t (by simp; omega) (cond_t (by decide) hK)
        · rw [apf0 h1 h2 h3, if_pos rfl] at hK
          refine cond_f (by simp; omega) (cond_f (by decide) (chain_ok hlast h1 ?_))
          exact ⟨fin _ (fun x => K x 0 0) hK, fin _ (fun x => K x 0 0) hK, fin _ (fun x => K x 0 0) hK⟩

/-- Whether a query takes a record. -/
def qt (user from_ to : Int) (r : R) : Bool := decide ((user = -1 ∨ r.2.1 = user) ∧ from_ ≤ r.1 ∧ r.1 ≤ to)
/-- The places of the records that a query takes. -/
def qs (user from_ to : Int) : Nat → List R → List Int
  | _, [] => []
  | i, r :: l => if qt user from_ to r then (i : Int) :: qs user from_ to (i + 1) l else qs user from_ to (i + 1) l

theorem qs_len (user from_ to : Int) : ∀ (i : Nat) (l : List R), (qs user from_ to i l).length ≤ l.length
  | _, [] => by simp [qs]
  | i, r :: l => by
    rw [qs]
    have := qs_len user from_ to (i + 1) l
    split <;> simp <;> omega

theorem Query_loop {user from_ to : Int} {l : List R} (hl : l.length ≤ 40) {K : List Int → Prop} : ∀ (fu i : Nat) (out : List Int), i ≤ l.length → l.length - i < fu → out.length ≤ i → K (out ++ qs user from_ to i (l.drop i)) →
    L.audit_Query_L1_R user from_ to l (l.length : Int) fu i out K
  | 0, i, out, _, h, _, _ => by omega
  | fu + 1, i, out, hi, h, ho, hK => by
    show L.audit_Query_L1_b user from_ to l (l.length : Int) i out _ _
    unfold L.audit_Query_L1_b
    rcases Nat.lt_or_ge i l.length with g | g
    · have hin : inB (i : Int) l.length := inB_of (by omega) (by omega)
      rw [drop_cons ((0, 0, 0, 0) : R) g] at hK
      obtain ⟨r, hr⟩ : ∃ r : R, l.getD i (0, 0, 0, 0) = r := ⟨_, rfl⟩
      rw [hr] at hK
      have hr2 : l.getD (i : Int).toNat (0, (0, (0, 0))) = r := hr
      rw [hr2]
      refine cond_t (by simp; omega) ⟨hin, ?_⟩
      rw [i64_id (by omega) (by omega)]
      have e : (bif (bif (bif (user == (-1)) then true else ((r.2.1) == user)) then (decide ((r.1) ≥ from_)) else false) then (decide ((r.1) ≤ to)) else false) = qt user from_ to r := bool_iff (by simp [qt]; omega)
      rw [e]
      rw [qs] at hK
      cases hq : qt user from_ to r with
      | true =>
        rw [hq, if_pos rfl] at hK
        refine cond_t rfl ⟨fits_of (by simp; omega), Query_loop hl fu (i + 1) _ (by omega) (by omega) (by simp; omega) ?_⟩
        rw [List.append_assoc]; exact hK
      | false =>
        rw [hq, if_neg (by simp)] at hK
        exact cond_f rfl (Query_loop hl fu (i + 1) out (by omega) (by omega) (by omega) hK)
    · rw [List.drop_eq_nil_of_le g] at hK
      rw [qs, List.append_nil] at hK
      exact cond_f (by simp; omega) hK

/-- The answer of a query. -/
def qa (l : List R) (user from_ to : Int) : List Int × Int × Int :=
  if logf l = (0, 0) then (if user < -1 ∨ 7 < user then ([], 3, -2) else (qs user from_ to 0 l, 0, 0)) else ([], logf l)

theorem Query_ok {l : List R} {user from_ to : Int} {K : List Int → Int → Int → Prop} (hK : K (qa l user from_ to).1 (qa l user from_ to).2.1 (qa l user from_ to).2.2) : L.audit_Query l user from_ to K := by
  constructor
  unfold L.audit_Query_B
  unfold qa at hK
  refine Validate_ok ?_
  by_cases hv : logf l = (0, 0)
  · rw [if_pos hv] at hK
    refine cond_f (fault0 hv) ?_
    by_cases hu : user < -1 ∨ 7 < user
    · rw [if_pos hu] at hK
      exact cond_t (by simpa using hu) hK
    · rw [if_neg hu] at hK
      exact cond_f (by simp; omega) ⟨⟨l.length + 1, Query_loop (logf_len hv) _ 0 [] (by omega) (by omega) (by simp) hK⟩⟩
  · rw [if_neg hv] at hK
    exact cond_t (fault1 hv) hK

/-- How many records two logs have in common. -/
def fk : List R → List R → Nat
  | a :: l, b :: m => if a = b then fk l m + 1 else 0
  | _, _ => 0

theorem req {a b : R} : (((a.1) == (b.1)) && (((a.2.1) == (b.2.1)) && (((a.2.2.1) == (b.2.2.1)) && (((a.2.2.2) == (b.2.2.2)) && true)))) = decide (a = b) := by
  obtain ⟨a1, a2, a3, a4⟩ := a
  obtain ⟨b1, b2, b3, b4⟩ := b
  exact bool_iff (by simp)

theorem guard_in {i n m : Nat} : ((bif (decide ((i : Int) < (n : Int))) then (decide ((i : Int) < (m : Int))) else false) == true) = true → inB (i : Int) n ∧ inB (i : Int) m := by
  intro h
  have h : (bif (decide ((i : Int) < (n : Int))) then (decide ((i : Int) < (m : Int))) else false) = true := by simpa using h
  rw [bor_and] at h
  simp only [Bool.and_eq_true, decide_eq_true_eq] at h
  exact ⟨inB_of (by omega) h.1, inB_of (by omega) h.2⟩
where
  bor_and {p q : Bool} : (bif p then q else false) = (p && q) := by cases p <;> rfl

end Au
end Go.Proofs.Ytopibmbmlifkmaa

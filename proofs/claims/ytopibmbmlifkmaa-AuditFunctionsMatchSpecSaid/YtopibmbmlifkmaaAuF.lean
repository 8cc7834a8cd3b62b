/-
  The audit log: the functions match the specification. Conditions: none.
-/
import Derived.Test.YtopibmbmlifkmaaAuA
set_option linter.unusedVariables false
set_option maxRecDepth 100000
namespace Go.Proofs.Ytopibmbmlifkmaa
open Eng
namespace Au

theorem fork_loop {a b : List R} (ha : a.length ≤ 40) {K : Int → Prop} : ∀ (fu n : Nat), n ≤ a.length → n ≤ b.length → a.length - n < fu → K ((n + fk (a.drop n) (b.drop n) : Nat) : Int) → L.law8_AuditFunctionsMatchSpec_L1_R a b fu n K
  | 0, n, _, _, h, _ => by omega
  | fu + 1, n, hn, hm, h, hK => by
    show L.law8_AuditFunctionsMatchSpec_L1_b a b n _ _
    unfold L.law8_AuditFunctionsMatchSpec_L1_b
    refine ⟨fun h => (guard_in h).1, fun h => (guard_in h).2, ?_⟩
    by_cases g : n < a.length ∧ n < b.length
    · rw [drop_cons ((0, 0, 0, 0) : R) g.1, drop_cons ((0, 0, 0, 0) : R) g.2, fk] at hK
      have e1 : decide ((n : Int) < (a.length : Int)) = true := by simp; omega
      have e2 : decide ((n : Int) < (b.length : Int)) = true := by simp; omega
      rw [e1, e2]
      simp only [cond_true]
      rw [req]
      by_cases e : a.getD n (0, 0, 0, 0) = b.getD n (0, 0, 0, 0)
      · rw [if_pos e] at hK
        refine cond_t (by simpa using e) ?_
        rw [i64_id (by omega) (by omega)]
        refine fork_loop ha fu (n + 1) (by omega) (by omega) (by omega) ?_
        rw [show n + 1 + fk (a.drop (n + 1)) (b.drop (n + 1)) = n + (fk (a.drop (n + 1)) (b.drop (n + 1)) + 1) from by omega]
        exact hK
      · rw [if_neg e] at hK
        exact cond_f (by simpa using e) hK
    · have e0 : fk (a.drop n) (b.drop n) = 0 := by
        by_cases h1 : n < a.length
        · rw [show b.drop n = [] from List.drop_eq_nil_of_le (by omega)]; cases a.drop n <;> rfl
        · rw [show a.drop n = [] from List.drop_eq_nil_of_le (by omega)]; rfl
      rw [e0] at hK
      have e : (bif (decide ((n : Int) < (a.length : Int))) then (decide ((n : Int) < (b.length : Int))) else false) = false := by
        cases h1 : decide ((n : Int) < (a.length : Int)) with
        | false => rfl
        | true => simp only [cond_true]; simp at h1 ⊢; omega
      rw [e]
      exact hK

theorem want_loop {user from_ to : Int} {l : List R} (hl : l.length ≤ 40) (hu : -1 ≤ user) {K : List Int → Prop} : ∀ (fu i : Nat) (out : List Int), i ≤ l.length → l.length - i < fu → out.length ≤ i → K (out ++ qs user from_ to i (l.drop i)) →
    L.law8_AuditFunctionsMatchSpec_L2_R l user to from_ fu i out K
  | 0, i, out, _, h, _, _ => by omega
  | fu + 1, i, out, hi, h, ho, hK => by
    show L.law8_AuditFunctionsMatchSpec_L2_b l user to from_ i out _ _
    unfold L.law8_AuditFunctionsMatchSpec_L2_b
    rcases Nat.lt_or_ge i l.length with g | g
    · have hin : inB (i : Int) l.length := inB_of (by omega) (by omega)
      rw [drop_cons ((0, 0, 0, 0) : R) g] at hK
      obtain ⟨r, hr⟩ : ∃ r : R, l.getD i (0, 0, 0, 0) = r := ⟨_, rfl⟩
      rw [hr] at hK
      have hr2 : l.getD (i : Int).toNat (0, (0, (0, 0))) = r := hr
      rw [hr2]
      refine cond_t (by simp; omega) ⟨hin, fun _ => hin, fun _ _ => hin, ?_⟩
      rw [i64_id (by omega) (by omega)]
      have e : (bif (bif (decide ((r.1) ≥ from_)) then (decide ((r.1) ≤ to)) else false) then (bif (decide (user < 0)) then true else ((r.2.1) == user)) else false) = qt user from_ to r := bool_iff (by simp [qt]; omega)
      rw [e]
      rw [qs] at hK
      cases hq : qt user from_ to r with
      | true =>
        rw [hq, if_pos rfl] at hK
        refine cond_t rfl ⟨fits_of (by simp; omega), want_loop hl hu fu (i + 1) _ (by omega) (by omega) (by simp; omega) ?_⟩
        rw [List.append_assoc]; exact hK
      | false =>
        rw [hq, if_neg (by simp)] at hK
        exact cond_f rfl (want_loop hl hu fu (i + 1) out (by omega) (by omega) (by omega) hK)
    · rw [List.drop_eq_nil_of_le g] at hK
      rw [qs, List.append_nil] at hK
      exact cond_f (by simp; omega) hK

/-- The last tests: of Fork. -/
theorem j5 {l o : List R} (hv : logf l = (0, 0)) {K : Bool → Prop} (hK : K true) : L.law8_AuditFunctionsMatchSpec_J5 l o (fo l o).1 (fo l o).2.1 (fo l o).2.2 K := by
  have hk : ∀ b, b = true → K b := fun b h => h ▸ hK
  constructor
  unfold L.law8_AuditFunctionsMatchSpec_J5_B
  refine LogFault_ok ?_
  unfold fo
  rw [if_pos hv]
  by_cases ho : logf o = (0, 0)
  · rw [if_pos ho, ho]
    refine cond_f rfl ⟨⟨l.length + 1, fork_loop (logf_len hv) _ 0 (by omega) (by omega) (by omega) (hk _ ?_)⟩⟩
    simp
  · rw [if_neg ho]
    exact cond_t (logf_ne ho) (LogFault_ok (Fault_ok (hk _ (by simp))))

/-- The tests of Query and Fork. -/
theorem j4 {l o : List R} {user from_ to : Int} (hv : logf l = (0, 0)) {m : Int} {K : Bool → Int → Prop} (hK : ∀ m, K true m) :
    L.law8_AuditFunctionsMatchSpec_J4 l o user to (fo l o).1 from_ (qa l user from_ to).1 (qa l user from_ to).2.1 (qa l user from_ to).2.2 (fo l o).2.1 (fo l o).2.2 m K := by
  have hl := logf_len hv
  constructor
  unfold L.law8_AuditFunctionsMatchSpec_J4_B
  unfold qa
  rw [if_pos hv]
  have e : (bif (decide (user < (-1))) then true else (decide (user > 7))) = decide (user < -1 ∨ 7 < user) := bool_iff (by simp)
  rw [e]
  by_cases hu : user < -1 ∨ 7 < user
  · rw [if_pos hu, decide_eq_true hu]
    exact cond_t rfl (Fault_ok (cond_f (by simp) (j5 (K := fun r3 => K r3 m) hv (hK m))))
  · rw [if_neg hu, decide_eq_false hu]
    refine cond_f rfl ⟨⟨l.length + 1, want_loop hl (by omega) _ 0 [] (by omega) (by omega) (by simp) ?_⟩⟩
    have := qs_len user from_ to 0 l
    exact cond_f rfl (Equal_ok (by show big (qs user from_ to 0 l).length; unfold big; omega) ⟨cond_f (by simp) (j5 (K := fun r3 => K r3 m) hv (hK m))⟩)

/-- The answer of Append. -/
def apa (l : List R) (t u a : Int) : List R × Int × Int :=
  if logf l = (0, 0) then (if apf l t u a = 0 then (l ++ [(t, u, a, ch (last (0, 0, 0, 0) l).2.2.2 t u a)], 0, 0) else ([], apf l t u a, -2)) else ([], logf l)

theorem Append_any {l : List R} {t u a : Int} {K : List R → Int → Int → Prop} (hK : K (apa l t u a).1 (apa l t u a).2.1 (apa l t u a).2.2) : L.audit_Append l t u a K := by
  unfold apa at hK
  by_cases hv : logf l = (0, 0)
  · rw [if_pos hv] at hK
    refine Append_ok hv ?_
    by_cases ha : apf l t u a = 0
    · rw [if_pos ha] at hK ⊢; exact hK
    · rw [if_neg ha] at hK ⊢; exact hK
  · rw [if_neg hv] at hK
    exact Append_bad hv hK

theorem j3 {l o : List R} {user to t u a : Int} (hv : logf l = (0, 0)) {x0 x1 x2 x3 : Int} {K : Bool → Int → Int → Int → Prop} (hK : ∀ a b c, K true a b c) :
    L.law8_AuditFunctionsMatchSpec_J3 l o user to (fo l o).1 t (apa l t u a).1 (apa l t u a).2.1 (apa l t u a).2.2 (qa l user t to).1 (qa l user t to).2.1 (qa l user t to).2.2 (fo l o).2.1 (fo l o).2.2 (last (0, 0, 0, 0) l).2.2.2 t u a 0 (apf l t u a) (if apf l t u a = 0 then 0 else -2) K := by
  have hl := logf_len hv
  constructor
  unfold L.law8_AuditFunctionsMatchSpec_J3_B
  unfold apa
  rw [if_pos hv]
  by_cases ha : apf l t u a = 0
  · rw [if_pos ha, if_pos ha, ha]
    obtain ⟨_, hr, hlt⟩ := logf_append hv ha
    have hlast := last_dg (p := (0, 0, 0, 0)) (by unfold dg; decide) (logf_lf hv)
    refine cond_f rfl (Chain_ok hlast hr ?_)
    have one : ∀ K' : Bool → Prop, (∀ b, b = true → K' b) → (fits (([] : List R).length + l.length)) ∧ (fits ((([] : List R) ++ l).length + ([(t, (u, (a, ch (last (0, 0, 0, 0) l).2.2.2 t u a)))] : List R).length)) ∧ L.ref8_EqualRecords (l ++ [(t, u, a, ch (last (0, 0, 0, 0) l).2.2.2 t u a)]) ((([] : List R) ++ l) ++ ([(t, (u, (a, ch (last (0, 0, 0, 0) l).2.2.2 t u a)))] : List R)) K' := fun K' h =>
      ⟨fits_of (by simp; omega), fits_of (by simp; omega), EqualR_ok (by simp; omega) (h _ (by simp))⟩
    refine ⟨cond_t (by simp [okAll]) (one _ fun b hb => ?_), cond_t (by simp [okAll]) (one _ fun b hb => ?_), cond_t (by simp [okAll]) (one _ fun b hb => ?_)⟩
    all_goals
      subst hb
      exact ⟨cond_f rfl (j4 (K := fun r3 m => K r3 m 0 0) hv fun m => hK m _ _)⟩
  · rw [if_neg ha, if_neg ha]
    exact cond_t (apf_code ha) (cond_f (by simp) (j4 (K := fun r3 m => K r3 m (apf l t u a) (-2)) hv fun m => hK m _ _))

theorem j2 {l o : List R} {user to t u a : Int} (hv : logf l = (0, 0)) (p : R) (hp : p = last (0, 0, 0, 0) l) {K : Bool → Int → Int → Int → Int → Prop} (hK : ∀ a b c d, K true a b c d) :
    L.law8_AuditFunctionsMatchSpec_J2 l o user to (fo l o).1 t u a (apa l t u a).1 (apa l t u a).2.1 (apa l t u a).2.2 (qa l user t to).1 (qa l user t to).2.1 (qa l user t to).2.2 (fo l o).2.1 (fo l o).2.2 p.1 p.2.1 p.2.2.1 p.2.2.2 K := by
  have h3 := fun K hK => j3 (l := l) (o := o) (user := user) (to := to) (t := t) (u := u) (a := a) hv (x0 := 0) (x1 := 0) (x2 := 0) (x3 := 0) (K := K) hK
  subst hp
  constructor
  unfold L.law8_AuditFunctionsMatchSpec_J2_B
  refine RecordValid_ok ?_
  have hz : vd 0 = true := by decide
  rw [hz, Bool.and_true]
  cases h1 : vr t u a with
  | false =>
    have ha := apf3 (l := l) h1
    rw [ha, if_neg (by decide)] at h3
    exact cond_t rfl (Fault_ok (h3 _ fun _ _ _ => hK _ _ _ _))
  | true =>
    refine cond_f rfl ?_
    by_cases h2 : t < (last (0, 0, 0, 0) l).1
    · have ha := apf16 h1 h2
      rw [ha, if_neg (by decide)] at h3
      exact cond_t (by simpa using h2) (Fault_ok (h3 _ fun _ _ _ => hK _ _ _ _))
    · refine cond_f (by simpa using h2) ?_
      by_cases h4 : l.length = 40
      · have ha := apf14 h1 h2 h4
        rw [ha, if_neg (by decide)] at h3
        exact cond_t (by rw [beq_iff_eq]; omega) (Fault_ok (h3 _ fun _ _ _ => hK _ _ _ _))
      · have ha := apf0 h1 h2 h4
        rw [ha, if_pos rfl] at h3
        exact cond_f (eqf (by omega)) (h3 _ fun _ _ _ => hK _ _ _ _)

theorem match_true (l o : List R) (t u a c user to : Int) (K : Bool → Prop) (hK : K true) : L.law8_AuditFunctionsMatchSpec l o t u a c user to K := by
  have hk : ∀ b, b = true → K b := fun b h => h ▸ hK
  constructor
  unfold L.law8_AuditFunctionsMatchSpec_B
  refine LogFault_ok (Append_any (Query_ok (Fork_ok (example_ok (cond_t rfl (Validate_ok ⟨cond_f (by simp) ⟨?_⟩⟩))))))
  unfold L.law8_AuditFunctionsMatchSpec_J1_B
  by_cases hv : logf l = (0, 0)
  · have hl := logf_len hv
    rw [hv]
    refine cond_f rfl ?_
    by_cases hne : l = []
    · subst hne
      exact cond_f (by simp) (j2 hv (0, 0, 0, 0) rfl fun _ _ _ _ => hK)
    · have hpos : 0 < l.length := List.length_pos_iff.2 hne
      refine cond_t (by simp; omega) ?_
      rw [i64_id (by omega) (by omega)]
      refine ⟨inB_of (by omega) (by omega), ?_⟩
      have e : ((l.length : Int) - 1).toNat = l.length - 1 := by omega
      rw [e]
      exact j2 hv (l.getD (l.length - 1) (0, 0, 0, 0)) (last_getD hne).symm fun _ _ _ _ => hK
  · have e1 : apa l t u a = ([], logf l) := by unfold apa; rw [if_neg hv]
    have e2 : qa l user t to = ([], logf l) := by unfold qa; rw [if_neg hv]
    have e3 : fo l o = (0, logf l) := by unfold fo; rw [if_neg hv]
    rw [e1, e2, e3]
    exact cond_t (logf_ne hv) (hk _ (by simp))

end Au

theorem AuditFunctionsMatchSpec_true (xs : ArgDen [(false, (.slice (.pair (.int .i64) (.pair (.int .i64) (.pair (.int .i64) (.int .i64)))))), (false, (.slice (.pair (.int .i64) (.pair (.int .i64) (.pair (.int .i64) (.int .i64)))))), (true, (.pair (.int .i64) (.pair (.int .i64) (.pair (.int .i64) (.int .i64))))), (false, (.int .i64)), (false, (.int .i64))]) (hw : WfAll _ xs) (K : Bool → Prop) (hK : K true) :
    L.law8_AuditFunctionsMatchSpec xs.1 xs.2.1 xs.2.2.1.1 xs.2.2.1.2.1 xs.2.2.1.2.2.1 xs.2.2.1.2.2.2 xs.2.2.2.1 xs.2.2.2.2.1 K :=
  Au.match_true _ _ _ _ _ _ _ _ K hK
end Go.Proofs.Ytopibmbmlifkmaa

/-
  The audit log: proofs match the specification and convince. Conditions: none.
-/
import Derived.Test.YtopibmbmlifkmaaAuL
set_option linter.unusedVariables false
set_option maxRecDepth 100000
namespace Go.Proofs.Ytopibmbmlifkmaa
open Eng
namespace Au

theorem convince_true (l : List R) (i : Int) (K : Bool → Prop) (hK : K true) : L.law8_AuditProofsConvince l i K := by
  have hk : ∀ b, b = true → K b := fun b h => h ▸ hK
  constructor
  unfold L.law8_AuditProofsConvince_B
  by_cases hv : logf l = (0, 0)
  · have hl := logf_len hv
    refine Checkpoint_ok hv ?_
    by_cases hi : i < 0 ∨ (l.length : Int) ≤ i
    · exact AProve_range hv hi (example_ok (cond_f rfl (cond_t rfl hK)))
    · obtain ⟨n, rfl⟩ : ∃ n : Nat, i = n := ⟨i.toNat, by omega⟩
      have hn : n < l.length := by omega
      refine AProve_ok hv hn (example_ok (cond_f rfl (cond_f rfl (cond_f ?_ ?_))))
      · have : decide ((n : Int) < 0) = false := by simp
        rw [this]; simp; omega
      have hat := lf_at n (logf_lf hv) hn
      have hm := lf_mem (logf_lf hv) _ (getD_mem (0, 0, 0, 0) hn)
      have hin : inB (n : Int) l.length := inB_of (by omega) (by omega)
      have hinc := included hv hn
      have fin : ∀ b : Int, dg b → (l.getD n (0, 0, 0, 0)).2.2.2 = ch b (l.getD n (0, 0, 0, 0)).1 (l.getD n (0, 0, 0, 0)).2.1 (l.getD n (0, 0, 0, 0)).2.2.1 → L.law8_AuditProofsConvince_J1 l n (rtF 64 (chains l)) b (pvF 64 (chains l) n) K := by
        intro b hb he
        refine ⟨hin, Includes_ok ?_⟩
        have : icl (rtF 64 (chains l)) (l.length : Int) n b ((l.getD (n : Int).toNat (0, (0, (0, 0)))).1) ((l.getD (n : Int).toNat (0, (0, (0, 0)))).2.1) ((l.getD (n : Int).toNat (0, (0, (0, 0)))).2.2.1) ((l.getD (n : Int).toNat (0, (0, (0, 0)))).2.2.2) (pvF 64 (chains l) n) = (true, 0, 0) := by
          show icl (rtF 64 (chains l)) (l.length : Int) n b (l.getD n (0, 0, 0, 0)).1 (l.getD n (0, 0, 0, 0)).2.1 (l.getD n (0, 0, 0, 0)).2.2.1 (l.getD n (0, 0, 0, 0)).2.2.2 (pvF 64 (chains l) n) = (true, 0, 0)
          unfold icl
          rw [hinc, if_neg (by rw [hm.2, vd_iff.2 hm.1, vd_iff.2 hb]; simp), decide_eq_true he]
          rfl
        rw [this]
        exact hK
      by_cases h0 : n = 0
      · subst h0
        rw [if_pos rfl] at hat
        exact cond_f (by simp) (fin 0 dg0 hat)
      · rw [if_neg h0] at hat
        have hn1 : n - 1 < l.length := by omega
        refine cond_t (by simp; omega) ?_
        rw [i64_id (by omega) (by omega)]
        refine ⟨inB_of (by omega) (by omega), ?_⟩
        rw [show ((n : Int) - 1).toNat = n - 1 from by omega]
        exact fin _ (lf_mem (logf_lf hv) _ (getD_mem (0, 0, 0, 0) hn1)).1 hat
  · refine Checkpoint_bad hv (AProve_bad hv (example_ok (cond_f rfl (cond_t ?_ hK))))
    rw [logf_ne hv]; rfl

theorem feq {a b c d : Int} : ((a == c) && ((b == d) && true)) = decide ((a, b) = (c, d)) := bool_iff (by simp)

theorem pmatch_tail (i c n b t u a ch0 : Int) (p : List Int) {K : Bool → Prop} (hK : K true) :
    L.law8_AuditProofsMatchSpec_J1 i c n b p (icl c n i b t u a ch0 p).1 t u a ch0 (icl c n i b t u a ch0 p).2.1 (icl c n i b t u a ch0 p).2.2 K := by
  have hk : ∀ b, b = true → K b := fun b h => h ▸ hK
  constructor
  unfold L.law8_AuditProofsMatchSpec_J1_B
  refine RecordValid_ok ?_
  have e : (bif (bif (!(vr t u a && vd ch0)) then true else (decide (b < 0))) then true else (decide (b ≥ 2305843009213693951))) = !(vr t u a && (vd ch0 && vd b)) := by
    cases vr t u a <;> cases vd ch0 <;> first | rfl | skip
    exact bool_iff (by simp [vd]; try omega)
  rw [e]
  unfold icl
  cases h : (vr t u a && (vd ch0 && vd b)) with
  | false =>
    rw [if_pos rfl]
    exact cond_t rfl (Fault_ok (hk _ rfl))
  | true =>
    rw [if_neg (by simp)]
    simp only [Bool.and_eq_true] at h
    refine cond_f rfl (Verify_ok ?_)
    have e2 : okAll [((((vfy c n i ch0 p).2.1 == (vfy c n i ch0 p).2.1) && (((vfy c n i ch0 p).2.2 == (vfy c n i ch0 p).2.2) && true)), true), ((bif ((vfy c n i ch0 p).2.1 == 0) then (vfy c n i ch0 p).1 else false), true)] = ((vfy c n i ch0 p).2.1 == 0 && (vfy c n i ch0 p).1) := by
      simp [okAll]
    have e3 : okAll [((((vfy c n i ch0 p).2.1 == (vfy c n i ch0 p).2.1) && (((vfy c n i ch0 p).2.2 == (vfy c n i ch0 p).2.2) && true)), true)] = true := by simp [okAll]
    simp only [e2, e3]
    have hz : (vfy c n i ch0 p).1 = true → (vfy c n i ch0 p).2.1 = 0 := by
      unfold vfy
      split
      · simp
      · split
        · simp
        · split
          · simp
          · split
            · simp
            · split
              · simp
              · simp
    cases h1 : (vfy c n i ch0 p).1 with
    | false =>
      rw [Bool.and_false]
      exact cond_f rfl (cond_t rfl (hk _ (by simp)))
    | true =>
      rw [hz h1]
      refine cond_t rfl (Chain_ok (vd_iff.1 h.2.2) h.1 (hk _ ?_))
      simp only [Bool.true_and, beq_self_eq_true, cond_true]
      rw [beq_iff_eq]
      exact bool_iff (by simp)

theorem pmatch_true (l : List R) (i c n b t u a ch0 : Int) (p : List Int) (K : Bool → Prop) (hK : K true) : L.law8_AuditProofsMatchSpec l i c n b t u a ch0 p K := by
  constructor
  unfold L.law8_AuditProofsMatchSpec_B
  by_cases hv : logf l = (0, 0)
  · have hl := logf_len hv
    have hroot : L.translog_Root (chains l) = L.translog_Root (chains l) := rfl
    refine Checkpoint_ok hv ?_
    by_cases hi : i < 0 ∨ (l.length : Int) ≤ i
    · refine AProve_range hv hi (Includes_ok (example_ok (cond_f rfl (LogFault_ok ?_))))
      rw [hv]
      refine cond_f rfl (chains_ok hl (Root_ok (by rw [chains_len]; omega) (chains_dg hv) (cond_f (by simp [chains]) (cond_t ?_ (Fault_ok (cond_f rfl (pmatch_tail i c n b t u a ch0 p hK)))))))
      cases h1 : decide (i < 0) with
      | true => rfl
      | false => simp at h1 ⊢; omega
    · obtain ⟨m, rfl⟩ : ∃ m : Nat, i = m := ⟨i.toNat, by omega⟩
      have hm : m < l.length := by omega
      refine AProve_ok hv hm (Includes_ok (example_ok (cond_f rfl (LogFault_ok ?_))))
      rw [hv]
      refine cond_f rfl (chains_ok hl (Root_ok (by rw [chains_len]; omega) (chains_dg hv) (cond_f (by simp [chains]) (cond_f ?_ (chains_ok hl (Prove_ok (by rw [chains_len]; omega) (chains_dg hv) (by rw [chains_len]; omega) (cond_f rfl (Equal_ok ?_ ⟨cond_f ?_ (pmatch_tail m c n b t u a ch0 p hK)⟩))))))))
      · have : decide ((m : Int) < 0) = false := by simp
        rw [this]; simp; omega
      · have := pvF_len 64 (chains l) m
        unfold big; omega
      · simp [chains]
  · refine Checkpoint_bad hv (AProve_bad hv (Includes_ok (example_ok (cond_f rfl (LogFault_ok (cond_t (logf_ne hv) (cond_f (by simp) (pmatch_tail i c n b t u a ch0 p hK))))))))

end Au

theorem AuditProofsConvince_true (xs : ArgDen [(false, (.slice (.pair (.int .i64) (.pair (.int .i64) (.pair (.int .i64) (.int .i64)))))), (false, (.int .i64))]) (hw : WfAll _ xs) (K : Bool → Prop) (hK : K true) : L.law8_AuditProofsConvince xs.1 xs.2.1 K :=
  Au.convince_true _ _ K hK

theorem AuditProofsMatchSpec_true (xs : ArgDen [(false, (.slice (.pair (.int .i64) (.pair (.int .i64) (.pair (.int .i64) (.int .i64)))))), (false, (.int .i64)), (false, (.int .i64)), (false, (.int .i64)), (false, (.int .i64)), (true, (.pair (.int .i64) (.pair (.int .i64) (.pair (.int .i64) (.int .i64))))), (false, (.slice (.int .i64)))]) (hw : WfAll _ xs) (K : Bool → Prop) (hK : K true) :
    L.law8_AuditProofsMatchSpec xs.1 xs.2.1 xs.2.2.1 xs.2.2.2.1 xs.2.2.2.2.1 xs.2.2.2.2.2.1.1 xs.2.2.2.2.2.1.2.1 xs.2.2.2.2.2.1.2.2.1 xs.2.2.2.2.2.1.2.2.2 xs.2.2.2.2.2.2.1 K :=
  Au.pmatch_true _ _ _ _ _ _ _ _ _ _ K hK
end Go.Proofs.Ytopibmbmlifkmaa

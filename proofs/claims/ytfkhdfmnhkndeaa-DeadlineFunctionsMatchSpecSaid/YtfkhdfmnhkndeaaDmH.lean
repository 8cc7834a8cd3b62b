/-
  After a quiet time nothing happens any more. Conditions: none.
-/
import Derived.Test.YtfkhdfmnhkndeaaDmG
set_option linter.unusedVariables false
set_option linter.unusedSimpArgs false
namespace Go.Proofs.Ytfkhdfmnhkndeaa
open Eng
namespace Dl

theorem fold_res {caps : List Int} {sc : List (List Op)} (d : List Int) (S : St) : S.res.length ≤ (d.foldl (stepP caps sc) S).res.length := by
  obtain ⟨ext, he, _⟩ := procs_res (caps := caps) (sc := sc) d S
  rw [he]
  simp

theorem fold_quiet {caps : List Int} {sc : List (List Op)} : ∀ {d : List Int} {S : St}, (d.foldl (stepP caps sc) S).res.length = S.res.length → d.foldl (stepP caps sc) S = S ∧ ∀ p, p ∈ d → (tryS caps S.qs (opAt sc S p) (S.tick - S.since.getD p.toNat 0)).1.2.2 = false
  | [], S, _ => ⟨rfl, fun p hp => by simp at hp⟩
  | p :: d, S, h => by
    rw [List.foldl_cons] at h ⊢
    cases hf : (tryS caps S.qs (opAt sc S p) (S.tick - S.since.getD p.toNat 0)).1.2.2 with
    | true =>
      have h1 := fold_res (caps := caps) (sc := sc) d (stepP caps sc S p)
      have h2 : (stepP caps sc S p).res.length = S.res.length + 1 := by
        unfold stepP
        rw [hf]
        simp
      omega
    | false =>
      rw [stepP_no hf] at h ⊢
      obtain ⟨g1, g2⟩ := fold_quiet h
      refine ⟨g1, fun q hq => ?_⟩
      rcases List.mem_cons.1 hq with rfl | hq
      · exact hf
      · exact g2 q hq

theorem fold_still {caps : List Int} {sc : List (List Op)} : ∀ {d : List Int} {S : St}, (∀ p, p ∈ d → (tryS caps S.qs (opAt sc S p) (S.tick - S.since.getD p.toNat 0)).1.2.2 = false) → d.foldl (stepP caps sc) S = S
  | [], S, _ => rfl
  | p :: d, S, h => by
    rw [List.foldl_cons, stepP_no (h p (by simp))]
    exact fold_still fun q hq => h q (by simp [hq])

theorem step_quiet {caps : List Int} {sc : List (List Op)} {S : St} (h : (stepT caps sc S).res.length = S.res.length) : stepT caps sc S = { S with tick := S.tick + 1 } ∧ ∀ p, p ∈ ordA sc S → (tryS caps S.qs (opAt sc S p) (S.tick - S.since.getD p.toNat 0)).1.2.2 = false := by
  obtain ⟨g1, g2⟩ := fold_quiet (caps := caps) (sc := sc) (d := sortD S.since (ordA sc S)) (S := S) h
  refine ⟨?_, fun p hp => g2 p ((sortD_perm _ _).mem_iff.2 hp)⟩
  unfold stepT procs
  rw [g1]

theorem step_still {caps : List Int} {sc : List (List Op)} {S : St} (h : ∀ p, p ∈ ordA sc S → (tryS caps S.qs (opAt sc S p) (S.tick - S.since.getD p.toNat 0)).1.2.2 = false) : stepT caps sc S = { S with tick := S.tick + 1 } := by
  unfold stepT procs
  rw [fold_still fun p hp => h p ((sortD_perm _ _).mem_iff.1 hp)]

/-- Whoever has waited for an hour waits for no time. -/
theorem try_long {caps : List Int} {qs : List (List Int)} {n : Nat} {o : Op} (ho : OpOk n o) {w w' : Int} (h1 : 60 ≤ w) (h2 : 60 ≤ w') : (tryS caps qs o w).1.2.2 = (tryS caps qs o w').1.2.2 := by
  have hw := ho.wait.1
  unfold tryS
  have e1 : decide (o.2.2.2.1 ≠ -1 ∧ w ≥ o.2.2.2.1) = decide (o.2.2.2.1 ≠ -1 ∧ w' ≥ o.2.2.2.1) := by
    apply decide_eq_decide.2
    constructor <;> exact fun h => ⟨h.1, by omega⟩
  have e2 : decide (w ≥ o.2.2.2.1) = decide (w' ≥ o.2.2.2.1) := by
    apply decide_eq_decide.2
    constructor <;> exact fun h => by omega
  rw [e1, e2]
  repeat' split
  all_goals rfl

/-- Nobody has come later than now. -/
theorem runN_since {caps : List Int} {sc : List (List Op)} (hv : Valid caps sc) : ∀ (n i : Nat), i < sc.length → (runN caps sc n).since.getD i 0 ≤ n
  | 0, i, hi => by
    have := rep_get (α := Int) sc.length i 0 0 hi
    show (List.replicate sc.length (0 : Int)).getD i 0 ≤ _
    omega
  | n + 1, i, hi => by
    have ih := runN_since hv n i hi
    obtain ⟨h1, h2⟩ := runN_ok hv n
    have key : ∀ (d : List Int) (S : St), S.tick = n → S.since.getD i 0 ≤ n + 1 → (d.foldl (stepP caps sc) S).since.getD i 0 ≤ n + 1 := by
      intro d
      induction d with
      | nil => exact fun S _ h => h
      | cons p d ih =>
        intro S ht h
        rw [List.foldl_cons]
        refine ih _ (stepP_tick.trans ht) ?_
        unfold stepP
        cases (tryS caps S.qs (opAt sc S p) (S.tick - S.since.getD p.toNat 0)).1.2.2 with
        | false => exact h
        | true =>
          simp only [cond_true]
          by_cases e : p.toNat = i
          · rcases Nat.lt_or_ge p.toNat S.since.length with g | g
            · rw [← e, getD_set_same _ _ _ _ g]
              omega
            · rw [List.set_eq_of_length_le g]
              exact h
          · rw [getD_set_other _ _ _ _ _ e]
            exact h
    show (procs caps sc (runN caps sc n)).since.getD i 0 ≤ _
    have := key (sortD (runN caps sc n).since (ordA sc (runN caps sc n))) (runN caps sc n) h2 (by omega)
    exact_mod_cast this

theorem runN_up {caps : List Int} {sc : List (List Op)} (n : Nat) : ∀ k : Nat, (runN caps sc n).res.length ≤ (runN caps sc (n + k)).res.length
  | 0 => Nat.le_refl _
  | k + 1 => Nat.le_trans (runN_up n k) (fold_res (caps := caps) (sc := sc) _ _)

theorem quiet_ok {caps : List Int} {sc : List (List Op)} (hv : Valid caps sc) {n : Nat} (hq : Quiet caps sc n 62) : ∀ k : Nat, ordA sc (runN caps sc (n + k)) = ordA sc (runN caps sc n) := by
  obtain ⟨q, q1, q2, q3⟩ := hq
  have back : ∀ j : Nat, j ≤ q → runN caps sc (n - q + j) = { runN caps sc (n - q) with tick := ((n - q + j : Nat) : Int) } := by
    intro j
    induction j with
    | zero =>
      intro _
      have := (runN_ok hv (n - q)).2
      show runN caps sc (n - q) = _
      rw [Nat.add_zero, ← this]
    | succ j ih =>
      intro hj
      have e := ih (by omega)
      have u1 := runN_up (caps := caps) (sc := sc) (n - q) j
      have u2 := runN_up (caps := caps) (sc := sc) (n - q + (j + 1)) (q - (j + 1))
      rw [show n - q + (j + 1) + (q - (j + 1)) = n by omega] at u2
      have u3 := runN_up (caps := caps) (sc := sc) (n - q + j) 1
      have u5 : (runN caps sc (n - q + j)).res.length = (runN caps sc (n - q)).res.length := by rw [e]
      have hs : (stepT caps sc (runN caps sc (n - q + j))).res.length = (runN caps sc (n - q + j)).res.length := by
        show (runN caps sc (n - q + (j + 1))).res.length = _
        have u4 : runN caps sc (n - q + j + 1) = runN caps sc (n - q + (j + 1)) := rfl
        rw [u4] at u3
        omega
      have := (step_quiet hs).1
      have hk : runN caps sc (n - q + (j + 1)) = stepT caps sc (runN caps sc (n - q + j)) := rfl
      rw [hk, this, e]
      have et : ((n - q + j : Nat) : Int) + 1 = ((n - q + (j + 1) : Nat) : Int) := by omega
      rw [← et]
  have b1 := back (q - 1) (by omega)
  have b2 := back q (Nat.le_refl _)
  rw [show n - q + (q - 1) = n - 1 by omega] at b1
  rw [show n - q + q = n by omega] at b2
  have hn : runN caps sc n = stepT caps sc (runN caps sc (n - 1)) := by
    obtain ⟨m, rfl⟩ : ∃ m, n = m + 1 := ⟨n - 1, by omega⟩
    rfl
  have hs : (stepT caps sc (runN caps sc (n - 1))).res.length = (runN caps sc (n - 1)).res.length := by
    rw [← hn, b2, b1]
  have hun := (step_quiet hs).2
  rw [b1] at hun
  have still : ∀ k : Nat, runN caps sc (n + k) = { runN caps sc (n - q) with tick := ((n + k : Nat) : Int) } := by
    intro k
    induction k with
    | zero => exact b2
    | succ k ih =>
      have hk : runN caps sc (n + (k + 1)) = stepT caps sc (runN caps sc (n + k)) := rfl
      rw [hk, step_still]
      · rw [ih]
        have et : ((n + k : Nat) : Int) + 1 = ((n + (k + 1) : Nat) : Int) := by omega
        rw [← et]
      · rw [ih]
        intro p hp
        have hp' : p ∈ ordA sc (runN caps sc (n - q)) := hp
        obtain ⟨p1, p2⟩ := ordA_mem.1 hp'
        have h1 := hun p hp'
        have ho : OpOk caps.length (opAt sc (runN caps sc (n - q)) p) := op_ok hv (runN_ok hv (n - q)).1 p1 p2
        have hsn := runN_since hv (n - q) p.toNat (by omega)
        rw [← h1]
        exact try_long ho (by simp only; omega) (by simp only; omega)
  intro k
  rw [still k, b2]
  rfl

end Dl
end Go.Proofs.Ytfkhdfmnhkndeaa

/-
  What every state of a rollout keeps to. Conditions: none.
-/
import Derived.Test.YtgedmbndmdphdaaRoT
namespace Go.Proofs.Ytgedmbndmdphdaa
open Eng
namespace Ro
open Can (okC okC_nat)

/-- A ring. -/
structure RowOk (P : Par) (r : Row) : Prop where
  pos : ∀ x, x ∈ r.1 → 0 < x
  inc : r.1.Pairwise (· < ·)
  top : r.2.1 ≠ 0 → 0 < r.2.1 ∧ ∀ x, x ∈ r.1 → x < r.2.1
  cnt : r.2.1 = 0 → r.2.2 = (0, 0)
  ver : r.2.1 ≠ 0 → vd P r.2.2.1 r.2.2.2 ≠ 3

/-- A ring and the next. -/
structure Adj (r r' : Row) : Prop where
  sub : ∀ x, x ∈ r'.1 → x ∈ r.1
  act : r'.2.1 ≠ 0 → r'.2.1 ∈ r.1

structure Good (P : Par) (a : List Row) : Prop where
  row : ∀ i, i < a.length → RowOk P (List.getD a i ([], (0, (0, 0))))
  adj : ∀ i, i + 1 < a.length → Adj (List.getD a i ([], (0, (0, 0)))) (List.getD a (i + 1) ([], (0, (0, 0))))

theorem Good.set {P : Par} {a : List Row} (h : Good P a) {i : Nat} (hi : i < a.length) {x : Row} (hx : RowOk P x) (hp : ∀ j, j + 1 = i → Adj (List.getD a j ([], (0, (0, 0)))) x) (hn : i + 1 < a.length → Adj x (List.getD a (i + 1) ([], (0, (0, 0))))) : Good P (a.set i x) := by
  refine ⟨fun j hj => ?_, fun j hj => ?_⟩
  · rw [List.length_set] at hj
    by_cases e : i = j
    · subst e; rw [getD_set_same _ _ _ _ hi]; exact hx
    · rw [getD_set_other _ _ _ _ _ e]; exact h.row j hj
  · rw [List.length_set] at hj
    by_cases e : i = j
    · subst e
      rw [getD_set_same _ _ _ _ hi, getD_set_other _ _ _ _ _ (by omega)]
      exact hn hj
    · by_cases e2 : i = j + 1
      · subst e2
        rw [getD_set_same _ _ _ _ hi, getD_set_other _ _ _ _ _ (by omega)]
        exact hp j rfl
      · rw [getD_set_other _ _ _ _ _ e, getD_set_other _ _ _ _ _ e2]
        exact h.adj j hj

theorem getD_map {α β} (f : α → β) (l : List α) (i : Nat) (d : α) (e : β) (h : i < l.length) : (l.map f).getD i e = f (l.getD i d) := by
  rw [getD_get _ _ _ (by simpa using h), getD_get _ _ _ h, List.getElem_map]

theorem RowOk.bk {P : Par} {r : Row} (h : RowOk P r) (v : Int) : RowOk P (bk v r) := by
  unfold Ro.bk
  refine ⟨fun x hx => h.pos x (del_mem.1 hx).1, h.inc.filter _, ?_, ?_, ?_⟩
  all_goals
    cases hv : r.2.1 == v
    · simp only [cond_false]
      first
        | exact fun h0 => ⟨(h.top h0).1, fun x hx => (h.top h0).2 x (del_mem.1 hx).1⟩
        | exact h.cnt
        | exact h.ver
    · simp

theorem Adj.bk {r r' : Row} (h : Adj r r') (v : Int) : Adj (bk v r) (bk v r') := by
  unfold Ro.bk
  refine ⟨fun x hx => ?_, ?_⟩
  · obtain ⟨h1, h2⟩ := del_mem.1 hx
    exact del_mem.2 ⟨h.sub x h1, h2⟩
  · cases hv : r'.2.1 == v
    · simp only [cond_false]
      exact fun h0 => del_mem.2 ⟨h.act h0, beq_eq_false_iff_ne.1 hv⟩
    · simp

theorem Good.back {P : Par} {a : List Row} (h : Good P a) (v : Int) : Good P (a.map (bk v)) := by
  refine ⟨fun i hi => ?_, fun i hi => ?_⟩
  · rw [List.length_map] at hi
    rw [getD_map _ _ _ ([], (0, (0, 0))) _ hi]
    exact (h.row i hi).bk v
  · rw [List.length_map] at hi
    rw [getD_map _ _ _ ([], (0, (0, 0))) _ hi, getD_map _ _ _ ([], (0, (0, 0))) _ (by omega)]
    exact (h.adj i hi).bk v

theorem vdt_three (g1 b1 g2 b2 : Nat) (n m : Int) : Can.vdt g1 b1 g2 b2 n m = 3 ↔ Can.fl g1 b1 g2 b2 m = true := by
  have := Can.vdt_fail g1 b1 g2 b2 n m
  rw [← this]
  exact beq_iff_eq.symm

theorem vd_zero {P : Par} (hP : P.ok) : vd P 0 0 ≠ 3 := by
  obtain ⟨pg, pb, n, m⟩ := P
  obtain ⟨h1, h2, h3, h4, h5⟩ := hP
  simp only at h1 h2 h3 h4 h5
  obtain ⟨g1, b1, rfl, rfl, hs1⟩ := okC_nat h1
  unfold vd
  intro h
  rw [vdt_three] at h
  simp only [Int.toNat_natCast, Int.toNat_zero] at h
  rw [Can.fl_zero g1 b1 0 m hs1 (by omega) h5] at h
  cases h

theorem inc_last {xs : List Int} (h : xs.Pairwise (· < ·)) : ∀ x, x ∈ xs → x ≤ xs.getD (xs.length - 1) 0 := by
  intro x hx
  obtain ⟨i, hi, rfl⟩ := List.getElem_of_mem hx
  rw [getD_get _ _ _ (by omega)]
  by_cases e : i = xs.length - 1
  · subst e; exact Int.le_refl _
  · exact Int.le_of_lt (List.pairwise_iff_getElem.1 h i (xs.length - 1) hi (by omega) (by omega))

theorem stp_good {P : Par} (hP : P.ok) {a : List Row} {e : Ev} (ha : 0 < a.length) (h : Good P a) (h0 : (stp P a e).1 = 0) : Good P (stp P a e).2 := by
  revert h0
  unfold stp
  split
  · exact fun _ => h
  next h1 =>
  obtain ⟨f1, f2, f3, f4⟩ := fm_zero (show fm a.length e.1 e.2.1 e.2.2.1 e.2.2.2.1 e.2.2.2.2 = 0 by omega)
  have hr : e.2.2.1.toNat < a.length := by omega
  split
  · unfold st
    split
    · exact fun _ => h
    next g1 =>
    split
    · exact fun _ => h
    split
    · exact fun _ => h
    next g3 =>
    intro _
    have h0 := h.row 0 ha
    refine h.set ha ⟨h0.pos, h0.inc, fun _ => ⟨by simp only; omega, fun x hx => ?_⟩, fun e => ?_, fun _ => vd_zero hP⟩ (fun j hj => by omega) (fun hn => ⟨(h.adj 0 hn).sub, (h.adj 0 hn).act⟩)
    · have := inc_last h0.inc x hx
      have hne : (List.getD a 0 ([], (0, (0, 0)))).1 ≠ [] := List.ne_nil_of_mem hx
      have h3 : ¬ (e.2.1 ≤ (List.getD a 0 ([], (0, (0, 0)))).1.getD ((List.getD a 0 ([], (0, (0, 0)))).1.length - 1) 0) := fun hle => g3 ⟨hne, hle⟩
      show x < e.2.1
      omega
    · simp only at e; omega
  split
  · generalize e.2.2.1.toNat = i at hr
    have hi := h.row i hr
    unfold rp
    split
    · exact fun _ => h
    split
    · exact fun _ => h
    next g2 =>
    split
    · exact fun _ => h
    split
    · intro _
      -- the ring's version goes
      have e1 : (a.set i ((List.getD a i ([], (0, (0, 0)))).1, ((List.getD a i ([], (0, (0, 0)))).2.1, ((List.getD a i ([], (0, (0, 0)))).2.2.1 + e.2.2.2.1, (List.getD a i ([], (0, (0, 0)))).2.2.2 + e.2.2.2.2)))).map (bk (List.getD a i ([], (0, (0, 0)))).2.1) = a.map (bk (List.getD a i ([], (0, (0, 0)))).2.1) := by
        apply List.ext_getElem
        · simp
        · intro j hj1 hj2
          have hj : j < a.length := by simpa using hj2
          simp only [List.getElem_map, List.getElem_set]
          split
          · next e3 =>
            subst e3
            rw [show a[i] = (List.getD a i ([], (0, (0, 0)))) from (getD_get _ _ _ hj).symm]
            simp only [bk, beq_self_eq_true, cond_true]
          · rfl
      rw [e1]
      exact h.back _
    · next g4 =>
      intro _
      refine h.set hr ⟨hi.pos, hi.inc, hi.top, fun e => absurd e g2, fun _ => g4⟩ (fun j hj => ?_) (fun hn => ⟨(h.adj i hn).sub, (h.adj i hn).act⟩)
      subst hj
      exact ⟨(h.adj j hr).sub, (h.adj j hr).act⟩
  split
  · generalize e.2.2.1.toNat = i at hr
    have hi := h.row i hr
    unfold ad
    split
    · exact fun _ => h
    next g1 =>
    have hact : (List.getD a i ([], (0, (0, 0)))).2.1 ≠ 0 := fun e => g1 (.inl e)
    obtain ⟨ht1, ht2⟩ := hi.top hact
    have hg : Good P (a.set i ((List.getD a i ([], (0, (0, 0)))).1 ++ [(List.getD a i ([], (0, (0, 0)))).2.1], (0, (0, 0)))) := by
      refine h.set hr ⟨fun x hx => ?_, ?_, fun e => absurd rfl e, fun _ => rfl, fun e => absurd rfl e⟩ (fun j hj => ⟨fun x hx => ?_, fun e => absurd rfl e⟩) (fun hn => ⟨fun x hx => ?_, fun e => ?_⟩)
      · rcases List.mem_append.1 hx with hx | hx
        · exact hi.pos x hx
        · rw [List.mem_singleton.1 hx]; exact ht1
      · refine List.pairwise_append.2 ⟨hi.inc, List.pairwise_singleton _ _, fun x hx y hy => ?_⟩
        rw [List.mem_singleton.1 hy]
        exact ht2 x hx
      · subst hj
        rcases List.mem_append.1 hx with hx | hx
        · exact (h.adj j hr).sub x hx
        · rw [List.mem_singleton.1 hx]; exact (h.adj j hr).act hact
      · exact List.mem_append_left _ ((h.adj i hn).sub x hx)
      · exact List.mem_append_left _ ((h.adj i hn).act e)
    split
    · exact fun _ => h
    split
    · next hn =>
      intro _
      have hi1 := h.row (i + 1) hn
      refine hg.set (by simpa using hn) ⟨hi1.pos, hi1.inc, fun _ => ⟨ht1, fun x hx => ht2 x ((h.adj i hn).sub x hx)⟩, fun e => absurd e hact, fun _ => vd_zero hP⟩ (fun j hj => ?_) (fun hn2 => ?_)
      · obtain rfl : j = i := by omega
        rw [getD_set_same _ _ _ _ hr]
        exact ⟨fun x hx => List.mem_append_left _ ((h.adj j hn).sub x hx), fun _ => List.mem_append_right _ (List.mem_singleton.2 rfl)⟩
      · rw [List.length_set] at hn2
        rw [getD_set_other _ _ _ _ _ (by omega)]
        exact ⟨(h.adj (i + 1) hn2).sub, (h.adj (i + 1) hn2).act⟩
    · exact fun _ => hg
  split
  · exact fun _ => h.back _
  · exact fun _ => h

theorem go_good {P : Par} (hP : P.ok) : ∀ (es : List Ev) (ix : Int) (t : Nat) (a : List Row), 0 < a.length → Good P a → Small t a → (go P es ix a).1 = 0 → (go P es ix a).2.1 = 0 ∧ Good P (go P es ix a).2.2 ∧ Small (t + es.length) (go P es ix a).2.2 ∧ (go P es ix a).2.2.length = a.length
  | [], ix, t, a, _, hg, hs, _ => ⟨rfl, hg, hs, rfl⟩
  | e :: es, ix, t, a, ha, hg, hs, h0 => by
    unfold go at h0 ⊢
    by_cases hc : (stp P a e).1 ≠ 0
    · rw [if_pos hc] at h0
      exact absurd h0 hc
    · rw [if_neg hc] at h0 ⊢
      obtain ⟨s1, s2⟩ := stp_small (P := P) (e := e) ha hs
      obtain ⟨r1, r2, r3, r4⟩ := go_good hP es (ix + 1) (t + 1) _ (by rw [s2]; exact ha) (stp_good hP ha hg (by omega)) s1 h0
      refine ⟨r1, r2, ?_, by rw [r4, s2]⟩
      rw [List.length_cons, show t + (es.length + 1) = t + 1 + es.length from by omega]
      exact r3

theorem go_bad {P : Par} : ∀ (es : List Ev) (ix : Int) (a : List Row), (go P es ix a).1 ≠ 0 → (go P es ix a).2.2 = []
  | [], ix, a, h => absurd rfl h
  | e :: es, ix, a, h => by
    unfold go at h ⊢
    by_cases hc : (stp P a e).1 ≠ 0
    · rw [if_pos hc]
    · rw [if_neg hc] at h ⊢
      exact go_bad es _ _ h

theorem run_good {n : Int} {P : Par} {es : List Ev} (h0 : (run n P es).1 = 0) : (run n P es).2.1 = 0 ∧ P.ok ∧ Good P (run n P es).2.2 ∧ Small 40 (run n P es).2.2 ∧ (run n P es).2.2.length = n.toNat ∧ 1 ≤ n ∧ n ≤ 5 := by
  revert h0
  unfold run
  split
  · intro h; cases h
  split
  · intro h; cases h
  split
  · intro h; cases h
  next h1 h2 h3 =>
  intro h0
  have hP : P.ok := Classical.not_not.1 h2
  have z : okC 0 0 := ⟨by omega, by omega, by omega⟩
  obtain ⟨r1, r2, r3, r4⟩ := go_good hP es 0 0 (List.replicate n.toNat ([], (0, (0, 0)))) (by simp; omega) (by
    have e : ∀ i, i < (List.replicate n.toNat (([], (0, (0, 0))) : Row)).length → (List.getD (List.replicate n.toNat (([], (0, (0, 0))) : Row)) i ([], (0, (0, 0)))) = ([], (0, (0, 0))) := fun i hi => by
      rw [getD_get _ _ _ hi, List.getElem_replicate]
    refine ⟨fun i hi => ?_, fun i hi => ?_⟩
    · rw [e i hi]
      exact ⟨fun x hx => absurd hx List.not_mem_nil, List.Pairwise.nil, fun h => absurd rfl h, fun _ => rfl, fun h => absurd rfl h⟩
    · rw [e i (by omega), e (i + 1) hi]
      exact ⟨fun x hx => absurd hx List.not_mem_nil, fun h => absurd rfl h⟩) (fun r hr => by
    rw [List.eq_of_mem_replicate hr]
    exact ⟨Nat.le_refl _, z⟩) h0
  refine ⟨r1, hP, r2, fun r hr => ⟨?_, (r3 r hr).2⟩, by rw [r4]; simp, by omega, by omega⟩
  have := (r3 r hr).1
  omega

theorem run_bad {n : Int} {P : Par} {es : List Ev} (h : (run n P es).1 ≠ 0) : (run n P es).2.2 = [] := by
  revert h
  unfold run
  split
  · exact fun _ => rfl
  split
  · exact fun _ => rfl
  split
  · exact fun _ => rfl
  · exact fun h => go_bad _ _ _ h

end Ro
end Go.Proofs.Ytgedmbndmdphdaa

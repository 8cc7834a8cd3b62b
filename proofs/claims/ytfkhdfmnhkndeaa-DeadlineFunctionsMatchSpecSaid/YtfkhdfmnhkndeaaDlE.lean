/-
  A tick, Run and Stuck as plain functions. Conditions: none.
-/
import Derived.Test.YtfkhdfmnhkndeaaDlD
namespace Go.Proofs.Ytfkhdfmnhkndeaa
open Eng
namespace Dl

/-- A state of the simulation. -/
structure St where
  qs : List (List Int)
  next : List Int
  since : List Int
  tick : Int
  res : List Res

abbrev opAt (sc : List (List Op)) (S : St) (p : Int) : Op := (sc.getD p.toNat []).getD (S.next.getD p.toNat 0).toNat o0

/-- A process is considered. -/
def stepP (caps : List Int) (sc : List (List Op)) (S : St) (p : Int) : St :=
  bif (tryS caps S.qs (opAt sc S p) (S.tick - S.since.getD p.toNat 0)).1.2.2 then
    { qs := (tryS caps S.qs (opAt sc S p) (S.tick - S.since.getD p.toNat 0)).2
      next := S.next.set p.toNat (S.next.getD p.toNat 0 + 1)
      since := S.since.set p.toNat (S.tick + 1)
      tick := S.tick
      res := S.res ++ [(S.tick, (p, ((tryS caps S.qs (opAt sc S p) (S.tick - S.since.getD p.toNat 0)).1.1, (tryS caps S.qs (opAt sc S p) (S.tick - S.since.getD p.toNat 0)).1.2.1)))] }
  else { S with qs := (tryS caps S.qs (opAt sc S p) (S.tick - S.since.getD p.toNat 0)).2 }

/-- The processes that are not through. -/
def ordA (sc : List (List Op)) (S : St) : List Int := ((List.range sc.length).filter fun i => decide (S.next.getD i 0 < ((sc.getD i []).length : Int))).map Int.ofNat

def procs (caps : List Int) (sc : List (List Op)) (S : St) : St := (sortD S.since (ordA sc S)).foldl (stepP caps sc) S

/-- A tick. -/
def stepT (caps : List Int) (sc : List (List Op)) (S : St) : St := { procs caps sc S with tick := S.tick + 1 }

/-- What every state keeps to. -/
structure Ok (caps : List Int) (sc : List (List Op)) (S : St) : Prop where
  ql : S.qs.length = caps.length
  qb : ∀ c, c < caps.length → ((S.qs.getD c []).length : Int) ≤ caps.getD c 0
  nl : S.next.length = sc.length
  nb : ∀ i, i < sc.length → 0 ≤ S.next.getD i 0 ∧ S.next.getD i 0 ≤ ((sc.getD i []).length : Int)
  sl : S.since.length = sc.length
  tk : 0 ≤ S.tick
  sm : ∀ i, i < sc.length → 0 ≤ S.since.getD i 0 ∧ S.since.getD i 0 ≤ S.tick + 1
  rs : (S.res.length : Int) = S.next.sum

theorem capsB {caps : List Int} {sc : List (List Op)} (hv : Valid caps sc) {c : Nat} (hc : c < caps.length) : 1 ≤ caps.getD c 0 ∧ caps.getD c 0 ≤ 4 := by
  rw [getD_get _ _ _ hc]
  exact hv.cap _ (List.getElem_mem hc)

theorem try_len {caps : List Int} {qs : List (List Int)} {o : Op} {w : Int} : (tryS caps qs o w).2.length = qs.length := by
  unfold tryS
  split
  · split <;> simp
  split
  · split <;> simp
  split
  · split
    · split <;> simp
    · rfl
  · rfl

theorem try_qb {caps : List Int} {qs : List (List Int)} (hl : qs.length = caps.length) (hq : ∀ c, c < caps.length → ((qs.getD c []).length : Int) ≤ caps.getD c 0) {o : Op} {w : Int} :
    ∀ c, c < caps.length → (((tryS caps qs o w).2.getD c []).length : Int) ≤ caps.getD c 0 := by
  intro c hc
  have h0 := hq c hc
  have tl : ∀ (k : Nat) (x : Int) (xs : List Int), qs.getD k [] = x :: xs → (((qs.set k xs).getD c []).length : Int) ≤ caps.getD c 0 := by
    intro k x xs he
    by_cases hk : k = c
    · subst hk
      rw [getD_set_same _ _ _ _ (by omega)]
      rw [he, List.length_cons] at h0
      omega
    · rw [getD_set_other _ _ _ _ _ hk]
      exact h0
  unfold tryS
  split
  · split
    · exact h0
    · next hno =>
      by_cases hk : o.2.1.toNat = c
      · rw [hk] at hno ⊢
        simp only
        rw [getD_set_same _ _ _ _ (by omega)]
        simp only [List.length_append, List.length_singleton]
        omega
      · simp only
        rw [getD_set_other _ _ _ _ _ hk]
        exact h0
  split
  · split
    · exact h0
    · next he => exact tl _ _ _ he
  split
  · split
    · split
      · exact h0
      · next he => exact tl _ _ _ he
    · exact h0
  · exact h0

theorem sum_set {l : List Int} {i : Nat} (hi : i < l.length) (x : Int) : (l.set i x).sum = l.sum - l.getD i 0 + x := by
  induction l generalizing i with
  | nil => simp at hi
  | cons y l ih =>
    cases i with
    | zero => simp; omega
    | succ i =>
      have := ih (i := i) (by simpa using hi)
      simp only [List.set_cons_succ, List.sum_cons, List.getD_cons_succ, this]
      omega

theorem stepP_ok {caps : List Int} {sc : List (List Op)} {S : St} (h : Ok caps sc S) {p : Int} (hp : 0 ≤ p ∧ p < sc.length) (hn : S.next.getD p.toNat 0 < ((sc.getD p.toNat []).length : Int)) : Ok caps sc (stepP caps sc S p) := by
  have hi : p.toNat < sc.length := by omega
  unfold stepP
  cases (tryS caps S.qs (opAt sc S p) (S.tick - S.since.getD p.toNat 0)).1.2.2 with
  | false => exact ⟨try_len.trans h.ql, try_qb h.ql h.qb, h.nl, h.nb, h.sl, h.tk, h.sm, h.rs⟩
  | true =>
    have hnb := h.nb _ hi
    refine ⟨try_len.trans h.ql, try_qb h.ql h.qb, by simp [h.nl], fun i hi' => ?_, by simp [h.sl], h.tk, fun i hi' => ?_, ?_⟩
    · simp only [cond_true]
      by_cases e : p.toNat = i
      · subst e
        rw [getD_set_same _ _ _ _ (by rw [h.nl]; exact hi)]
        omega
      · rw [getD_set_other _ _ _ _ _ e]
        exact h.nb i hi'
    · simp only [cond_true]
      by_cases e : p.toNat = i
      · subst e
        rw [getD_set_same _ _ _ _ (by rw [h.sl]; exact hi)]
        have := h.tk
        omega
      · rw [getD_set_other _ _ _ _ _ e]
        exact h.sm i hi'
    · simp only [cond_true]
      rw [sum_set (by rw [h.nl]; exact hi)]
      have := h.rs
      simp only [List.length_append, List.length_singleton]
      omega

theorem stepP_next {caps : List Int} {sc : List (List Op)} {S : St} {p q : Int} (hpq : p.toNat ≠ q.toNat) : (stepP caps sc S p).next.getD q.toNat 0 = S.next.getD q.toNat 0 ∧ (stepP caps sc S p).since.getD q.toNat 0 = S.since.getD q.toNat 0 := by
  unfold stepP
  cases (tryS caps S.qs (opAt sc S p) (S.tick - S.since.getD p.toNat 0)).1.2.2 with
  | false => exact ⟨rfl, rfl⟩
  | true => exact ⟨getD_set_other _ _ _ _ _ hpq, getD_set_other _ _ _ _ _ hpq⟩

theorem stepP_tick {caps : List Int} {sc : List (List Op)} {S : St} {p : Int} : (stepP caps sc S p).tick = S.tick := by
  unfold stepP
  cases (tryS caps S.qs (opAt sc S p) (S.tick - S.since.getD p.toNat 0)).1.2.2 <;> rfl

/-- These processes are not through, each is there once. -/
structure Rdy (sc : List (List Op)) (S : St) (d : List Int) : Prop where
  nd : d.Nodup
  inr : ∀ p, p ∈ d → 0 ≤ p ∧ p < sc.length
  left : ∀ p, p ∈ d → S.next.getD p.toNat 0 < ((sc.getD p.toNat []).length : Int)

theorem Rdy.tail {caps : List Int} {sc : List (List Op)} {S : St} {p : Int} {d : List Int} (h : Rdy sc S (p :: d)) : Rdy sc (stepP caps sc S p) d := by
  refine ⟨(List.nodup_cons.1 h.nd).2, fun q hq => h.inr q (List.mem_cons_of_mem _ hq), fun q hq => ?_⟩
  have hne : p ≠ q := fun e => (List.nodup_cons.1 h.nd).1 (e ▸ hq)
  have h1 := h.inr p (by simp)
  have h2 := h.inr q (List.mem_cons_of_mem _ hq)
  rw [(stepP_next (caps := caps) (sc := sc) (S := S) (p := p) (q := q) (by omega)).1]
  exact h.left q (List.mem_cons_of_mem _ hq)

theorem sum_le {b : Int} : ∀ {l : List Int}, (∀ x, x ∈ l → x ≤ b) → l.sum ≤ b * l.length
  | [], _ => by simp
  | x :: l, h => by
    have h1 := h x (by simp)
    have h2 := sum_le (l := l) fun y hy => h y (List.mem_cons_of_mem _ hy)
    simp only [List.sum_cons, List.length_cons]
    rw [show ((l.length + 1 : Nat) : Int) = (l.length : Int) + 1 from by omega, Int.mul_add]
    omega

theorem res_le {caps : List Int} {sc : List (List Op)} (hv : Valid caps sc) {S : St} (h : Ok caps sc S) : S.res.length ≤ 40 := by
  have h1 := h.rs
  have h2 : S.next.sum ≤ 8 * S.next.length := sum_le fun x hx => by
    obtain ⟨i, hi, rfl⟩ := List.getElem_of_mem hx
    have hi' : i < sc.length := by rw [← h.nl]; exact hi
    have h3 := (h.nb i hi').2
    rw [getD_get _ _ _ hi, getD_get _ _ _ hi'] at h3
    have := hv.len _ (List.getElem_mem hi')
    omega
  have h3 := h.nl
  have h4 := hv.ns
  omega

theorem op_ok {caps : List Int} {sc : List (List Op)} (hv : Valid caps sc) {S : St} (h : Ok caps sc S) {p : Int} (hp : 0 ≤ p ∧ p < sc.length) (hn : S.next.getD p.toNat 0 < ((sc.getD p.toNat []).length : Int)) : OpOk caps.length (opAt sc S p) := by
  have hi : p.toNat < sc.length := by omega
  have h1 := h.nb _ hi
  have hm : sc.getD p.toNat [] ∈ sc := by rw [getD_get _ _ _ hi]; exact List.getElem_mem hi
  have hj : (S.next.getD p.toNat 0).toNat < (sc.getD p.toNat []).length := by omega
  refine hv.ops _ hm _ ?_
  show (sc.getD p.toNat []).getD (S.next.getD p.toNat 0).toNat o0 ∈ _
  rw [getD_get _ _ _ hj]
  exact List.getElem_mem hj

theorem proc_loop {caps : List Int} {sc : List (List Op)} (hv : Valid caps sc) {d : List Int} (hd : d.length ≤ 1000) {K : KT} {S' : St} (hK : ∀ m hs, Lay m hs S'.qs → K m caps sc S'.tick hs S'.next S'.since S'.res) :
    ∀ (fu i : Nat) (S : St) (m : Pool) (hs : List Hd), i ≤ d.length → d.length - i < fu → Lay m hs S.qs → Ok caps sc S → S.tick ≤ 1000000 → Rdy sc S (d.drop i) → (d.drop i).foldl (stepP caps sc) S = S' →
    L.deadline_machine_step_h40_L2_R d.length d fu i m caps sc S.tick hs S.next S.since S.res K
  | 0, i, S, m, hs, _, h, _, _, _, _, _ => by omega
  | fu + 1, i, S, m, hs, hi, h, hS, hok, ht, hr, hf => by
    show L.deadline_machine_step_h40_L2_b d.length d i m caps sc S.tick hs S.next S.since S.res _ K
    unfold L.deadline_machine_step_h40_L2_b
    rcases Nat.lt_or_ge i d.length with g | g
    · rw [List.drop_eq_getElem_cons g] at hr hf
      have hpm := hr.inr d[i] List.mem_cons_self
      have hpl := hr.left d[i] List.mem_cons_self
      rw [← getD_get d i 0 g] at hr hf hpm hpl
      generalize hp : d.getD i 0 = p at *
      have hpn : p.toNat < sc.length := by omega
      have hnb := hok.nb _ hpn
      have hsm := hok.sm _ hpn
      have htk := hok.tk
      have hop := op_ok hv hok hpm hpl
      refine cond_t (by simp; omega) ⟨⟨by omega, by omega⟩, ?_⟩
      rw [Int.toNat_natCast, hp]
      have e1 : i64 (S.tick - S.since.getD p.toNat 0) = S.tick - S.since.getD p.toNat 0 := i64_id (by omega) (by omega)
      rw [e1]
      refine ⟨⟨hpm.1, hpm.2⟩, ⟨hpm.1, by rw [hok.nl]; exact hpm.2⟩, ⟨hnb.1, hpl⟩, ⟨hpm.1, by rw [hok.sl]; exact hpm.2⟩, ?_⟩
      have hS' := stepP_ok hok hpm hpl
      have hr' := hr.tail (caps := caps)
      rw [List.foldl_cons] at hf
      have ih := fun m1 hs1 (h1 : Lay m1 hs1 (stepP caps sc S p).qs) => proc_loop hv hd hK fu (i + 1) (stepP caps sc S p) m1 hs1 g (by omega) h1 hS' (by rw [stepP_tick]; exact ht) hr' hf
      have hrl := res_le hv hok
      rw [i64_succ (by omega)]
      refine try_ok hS hok.ql.symm (fun c hc => ?_) (o := opAt sc S p) (by rw [hok.ql]; exact hop) (waited := S.tick - S.since.getD p.toNat 0) fun m1 hs1 hS1 => ?_
      · have h1 := hok.qb c (by rw [← hok.ql]; exact hc)
        have h2 := capsB hv (c := c) (by rw [← hok.ql]; exact hc)
        omega
      · unfold stepP at ih
        cases hb : (tryS caps S.qs (opAt sc S p) (S.tick - S.since.getD p.toNat 0)).1.2.2 with
        | false =>
          rw [hb] at ih
          exact cond_t rfl (ih m1 hs1 hS1)
        | true =>
          rw [hb] at ih
          refine cond_f rfl ?_
          have hfit : ∀ x : Res, fits (S.res.length + ([x] : List Res).length) := fun x => by
            simp only [fits, List.length_singleton]
            omega
          have hj : L.deadline_machine_step_h40_J2 p S.tick S.next S.since (fun m27 m28 => L.deadline_machine_step_h40_L2_R d.length d fu ((i + 1 : Nat) : Int) m1 caps sc S.tick hs1 m27 m28 (S.res ++ ([(S.tick, (p, ((tryS caps S.qs (opAt sc S p) (S.tick - S.since.getD p.toNat 0)).1.1, (tryS caps S.qs (opAt sc S p) (S.tick - S.since.getD p.toNat 0)).1.2.1)))] : List Res)) K) := by
            constructor
            unfold L.deadline_machine_step_h40_J2_B
            have b1 : inB p S.next.length := ⟨hpm.1, by rw [hok.nl]; exact hpm.2⟩
            refine ⟨b1, b1, ⟨hpm.1, by rw [hok.sl]; exact hpm.2⟩, ?_⟩
            have hlen8 : (sc.getD p.toNat []).length ≤ 8 := hv.len _ (by rw [getD_get _ _ _ hpn]; exact List.getElem_mem hpn)
            rw [i64_id (n := S.next.getD p.toNat 0 + 1) (by omega) (by omega), i64_id (n := S.tick + 1) (by omega) (by omega)]
            exact ih m1 hs1 hS1
          repeat' (first | exact hfit _ | exact hj | apply And.intro)
    · obtain rfl : i = d.length := by omega
      rw [List.drop_length] at hf
      subst hf
      exact cond_f (by simp) (hK m hs hS)

end Dl
end Go.Proofs.Ytfkhdfmnhkndeaa

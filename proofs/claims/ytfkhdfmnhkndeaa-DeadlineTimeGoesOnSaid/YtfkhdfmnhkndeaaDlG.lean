/-
  What the results of a simulation keep to: each is as it must be behind those before it. Conditions: none.
-/
import Derived.Test.YtfkhdfmnhkndeaaDlF
namespace Go.Proofs.Ytfkhdfmnhkndeaa
open Eng
namespace Dl

abbrev r0 : Res := (0, (0, (0, 0)))

/-- How many results a process has, and the tick behind its last one. -/
def cnt (p : Int) (l : List Res) : Nat := (l.filter fun e => e.2.1 == p).length
def lst (p : Int) : List Res → Int → Int
  | [], d => d
  | e :: l, d => lst p l (if e.2.1 = p then e.1 + 1 else d)

theorem cnt_app (p : Int) (l : List Res) (e : Res) : cnt p (l ++ [e]) = cnt p l + (if e.2.1 = p then 1 else 0) := by
  unfold cnt
  rw [List.filter_append, List.length_append]
  congr 1
  by_cases h : e.2.1 = p
  · rw [if_pos h, List.filter_cons, if_pos (beq_iff_eq.2 h)]; rfl
  · rw [if_neg h, List.filter_cons, if_neg (by simpa using h)]; rfl

theorem lst_app (p : Int) : ∀ (l : List Res) (e : Res) (d : Int), lst p (l ++ [e]) d = if e.2.1 = p then e.1 + 1 else lst p l d
  | [], e, d => rfl
  | x :: l, e, d => lst_app p l e _

/-- The operation that a result completes. -/
def opOf (sc : List (List Op)) (pre : List Res) (p : Int) : Op := (sc.getD p.toNat []).getD (cnt p pre) o0

/-- What waits on a channel behind the first i results. -/
def rep (sc : List (List Op)) (c : Int) (l : List Res) : Nat → List Int
  | 0 => []
  | i + 1 => if (l.getD i r0).2.2.1 = c then
      if (opOf sc (l.take i) (l.getD i r0).2.1).1 = 1 then rep sc c l i ++ [(l.getD i r0).2.2.2] else (rep sc c l i).tail
    else rep sc c l i

theorem rep_app (sc : List (List Op)) (c : Int) (l x : List Res) : ∀ i : Nat, i ≤ l.length → rep sc c (l ++ x) i = rep sc c l i
  | 0, _ => rfl
  | i + 1, h => by
    have e1 : (l ++ x).getD i r0 = l.getD i r0 := by
      rw [getD_get _ _ _ (by simp; omega), getD_get _ _ _ (by omega), List.getElem_append_left (by omega)]
    have e2 : (l ++ x).take i = l.take i := List.take_append_of_le_length (by omega)
    unfold rep
    rw [e1, e2, rep_app sc c l x i (by omega)]

/-- A result as it must be behind these. -/
structure Fit (caps : List Int) (sc : List (List Op)) (pre : List Res) (e : Res) : Prop where
  pr : 0 ≤ e.2.1 ∧ e.2.1 < sc.length
  op : cnt e.2.1 pre < (sc.getD e.2.1.toNat []).length
  out : e.2.2.1 = -1 → 3 ≤ (opOf sc pre e.2.1).1 ∧ e.1 - lst e.2.1 pre 0 = (opOf sc pre e.2.1).2.2.2.1 ∧ e.2.2.2 = 0
  snd : ∀ c : Nat, c < caps.length → e.2.2.1 = c → (opOf sc pre e.2.1).1 = 1 → ((rep sc c pre pre.length).length : Int) < caps.getD c 0
  rcv : ∀ c : Nat, c < caps.length → e.2.2.1 = c → (opOf sc pre e.2.1).1 ≠ 1 → ∃ xs, rep sc c pre pre.length = e.2.2.2 :: xs
  tk : 0 ≤ e.1
  ord : ∀ x, x ∈ pre → x.1 ≤ e.1 ∧ (x.2.1 = e.2.1 → x.1 < e.1)

/-- Of all results. -/
def AllFit (caps : List Int) (sc : List (List Op)) (l : List Res) : Prop := ∀ i, i < l.length → Fit caps sc (l.take i) (l.getD i r0)

theorem AllFit.snoc {caps : List Int} {sc : List (List Op)} {l : List Res} {e : Res} (h : AllFit caps sc l) (he : Fit caps sc l e) : AllFit caps sc (l ++ [e]) := by
  intro i hi
  simp only [List.length_append, List.length_singleton] at hi
  rcases Nat.lt_or_ge i l.length with g | g
  · rw [List.take_append_of_le_length (by omega), getD_get _ _ _ (by simp; omega), List.getElem_append_left g, ← getD_get l i r0 g]
    exact h i g
  · obtain rfl : i = l.length := by omega
    rw [List.take_append_of_le_length (by omega), List.take_length, getD_get _ _ _ (by simp), List.getElem_append_right (by omega)]
    simpa using he

/-- A state and its results belong together; the processes d are still to be considered in this tick. -/
structure Tr (caps : List Int) (sc : List (List Op)) (S : St) (d : List Int) : Prop where
  ok : Ok caps sc S
  all : AllFit caps sc S.res
  nx : ∀ p : Nat, p < sc.length → S.next.getD p 0 = cnt p S.res
  si : ∀ p : Nat, p < sc.length → S.since.getD p 0 = lst p S.res 0
  qu : ∀ c : Nat, c < caps.length → S.qs.getD c [] = rep sc c S.res S.res.length
  tk : ∀ e, e ∈ S.res → e.1 ≤ S.tick
  now : ∀ p : Nat, p < sc.length → (p : Int) ∈ d → ∀ e, e ∈ S.res → e.2.1 = p → e.1 < S.tick
  due : ∀ p : Nat, p < sc.length → S.next.getD p 0 < ((sc.getD p []).length : Int) → 3 ≤ (opAt sc S p).1 → (opAt sc S p).2.2.2.1 ≠ -1 →
    (if (p : Int) ∈ d then S.tick else S.tick + 1) - S.since.getD p 0 ≤ (opAt sc S p).2.2.2.1

theorem try_true {caps : List Int} {qs : List (List Int)} {n : Nat} (hn : qs.length = n) {o : Op} (ho : OpOk n o) {w : Int} (h : (tryS caps qs o w).1.2.2 = true) :
    (o.1 = 1 ∧ (0 ≤ o.2.1 ∧ o.2.1 < n) ∧ (tryS caps qs o w).1.1 = o.2.1 ∧ (tryS caps qs o w).2 = qs.set o.2.1.toNat (qs.getD o.2.1.toNat [] ++ [(tryS caps qs o w).1.2.1]) ∧ ((qs.getD o.2.1.toNat []).length : Int) < caps.getD o.2.1.toNat 0) ∨
    (o.1 ≠ 1 ∧ ∃ (c : Int) (xs : List Int), (0 ≤ c ∧ c < n) ∧ (tryS caps qs o w).1.1 = c ∧ qs.getD c.toNat [] = (tryS caps qs o w).1.2.1 :: xs ∧ (tryS caps qs o w).2 = qs.set c.toNat xs) ∨
    (3 ≤ o.1 ∧ (tryS caps qs o w).1.1 = -1 ∧ (tryS caps qs o w).1.2.1 = 0 ∧ (tryS caps qs o w).2 = qs ∧ w ≥ o.2.2.2.1 ∧ o.2.2.2.1 ≠ -1) := by
  have hk := ho.kind
  revert h
  unfold tryS
  by_cases h1 : o.1 = 1
  · simp only [if_pos h1]
    have hc := ho.chan (by omega)
    by_cases h2 : ((qs.getD o.2.1.toNat []).length : Int) ≥ caps.getD o.2.1.toNat 0
    · simp only [if_pos h2]
      intro h; cases h
    · simp only [if_neg h2]
      exact fun _ => .inl ⟨h1, hc, trivial, trivial, by omega⟩
  simp only [if_neg h1]
  by_cases h2 : o.1 = 2
  · simp only [if_pos h2]
    have hc := ho.chan (by omega)
    split
    · intro h; cases h
    · next x xs he => exact fun _ => .inr (.inl ⟨h1, o.2.1, xs, hc, rfl, he, rfl⟩)
  simp only [if_neg h2]
  by_cases h3 : o.1 = 3
  · simp only [if_pos h3]
    split
    · next c hp =>
      have hc := ho.chans c (pick_some hp).1
      split
      · intro h; cases h
      · next x xs he => exact fun _ => .inr (.inl ⟨h1, c, xs, hc, rfl, he, rfl⟩)
    · intro h
      have h' := of_decide_eq_true h
      exact .inr (.inr ⟨by omega, rfl, rfl, rfl, h'.2, h'.1⟩)
  simp only [if_neg h3]
  intro h
  have h' := of_decide_eq_true h
  have := ho.wait.2.2 h3
  exact .inr (.inr ⟨by omega, trivial, trivial, trivial, h', by omega⟩)

theorem try_false {caps : List Int} {qs : List (List Int)} {o : Op} {w : Int} (h : (tryS caps qs o w).1.2.2 = false) : (tryS caps qs o w).2 = qs ∧ (3 ≤ o.1 → o.2.2.2.1 ≠ -1 → w < o.2.2.2.1) := by
  revert h
  unfold tryS
  by_cases h1 : o.1 = 1
  · simp only [if_pos h1]
    split
    · exact fun _ => ⟨rfl, fun h => by omega⟩
    · intro h; cases h
  simp only [if_neg h1]
  by_cases h2 : o.1 = 2
  · simp only [if_pos h2]
    split
    · exact fun _ => ⟨rfl, fun h => by omega⟩
    · intro h; cases h
  simp only [if_neg h2]
  by_cases h3 : o.1 = 3
  · simp only [if_pos h3]
    split
    · next c hp =>
      split
      · next he => exact absurd he (pick_some hp).2
      · intro h; cases h
    · intro h
      have h' := of_decide_eq_false h
      exact ⟨rfl, fun _ hw => by
        rcases Int.lt_or_le w o.2.2.2.1 with g | g
        · exact g
        · exact absurd ⟨hw, g⟩ h'⟩
  simp only [if_neg h3]
  intro h
  have h' := of_decide_eq_false h
  exact ⟨trivial, fun _ _ => by omega⟩

theorem rep_last (sc : List (List Op)) (c : Int) (l : List Res) (e : Res) : rep sc c (l ++ [e]) (l ++ [e]).length = if e.2.2.1 = c then (if (opOf sc l e.2.1).1 = 1 then rep sc c l l.length ++ [e.2.2.2] else (rep sc c l l.length).tail) else rep sc c l l.length := by
  rw [List.length_append, List.length_singleton]
  have e1 : (l ++ [e]).getD l.length r0 = e := by
    rw [getD_get _ _ _ (by simp), List.getElem_append_right (by omega)]
    simp
  have e2 : (l ++ [e]).take l.length = l := by rw [List.take_append_of_le_length (by omega), List.take_length]
  show (if ((l ++ [e]).getD l.length r0).2.2.1 = c then _ else _) = _
  rw [e1, e2, rep_app sc c l [e] l.length (by omega)]

theorem Tr.step {caps : List Int} {sc : List (List Op)} (hv : Valid caps sc) {S : St} {p : Int} {d : List Int} (h : Tr caps sc S (p :: d)) (hr : Rdy sc S (p :: d)) : Tr caps sc (stepP caps sc S p) d := by
  have hp := hr.inr p List.mem_cons_self
  have hl := hr.left p List.mem_cons_self
  have hok' := stepP_ok h.ok hp hl
  have hop := op_ok hv h.ok hp hl
  have hi : p.toNat < sc.length := by omega
  have hpp : ((p.toNat : Nat) : Int) = p := by omega
  have hnd : p ∉ d := (List.nodup_cons.1 hr.nd).1
  have hne : ∀ q : Nat, (q : Int) ∈ d → q ≠ p.toNat := fun q hq e => hnd (by rw [← hpp, ← e]; exact hq)
  have hmem : ∀ q : Nat, q ≠ p.toNat → ((q : Int) ∈ p :: d ↔ (q : Int) ∈ d) := fun q hq => by
    rw [List.mem_cons]
    exact ⟨fun hh => hh.elim (fun e => absurd (by omega) hq) id, .inr⟩
  have hw := h.due p.toNat hi hl
  rw [hpp, if_pos List.mem_cons_self] at hw
  unfold stepP at hok' ⊢
  cases hb : (tryS caps S.qs (opAt sc S p) (S.tick - S.since.getD p.toNat 0)).1.2.2 with
  | false =>
    obtain ⟨hq, hlt⟩ := try_false hb
    rw [hb, cond_false] at hok'
    rw [cond_false]
    rw [hq] at hok' ⊢
    refine ⟨hok', h.all, h.nx, h.si, h.qu, h.tk, fun q hq' hqd => h.now q hq' (List.mem_cons_of_mem _ hqd), fun q hq' hqn hk hwt => ?_⟩
    by_cases e : q = p.toNat
    · subst e
      rw [if_neg (by rw [hpp]; exact hnd)]
      have e2 : opAt sc S ((p.toNat : Nat) : Int) = opAt sc S p := by rw [hpp]
      have hk' : 3 ≤ (opAt sc S p).1 := by rw [← e2]; exact hk
      have hwt' : (opAt sc S p).2.2.2.1 ≠ -1 := by rw [← e2]; exact hwt
      have := hlt hk' hwt'
      rw [show opAt sc { S with qs := S.qs } ((p.toNat : Nat) : Int) = opAt sc S p from e2]
      show S.tick + 1 - S.since.getD p.toNat 0 ≤ _
      omega
    · have := h.due q hq' hqn hk hwt
      simp only [hmem q e] at this
      exact this
  | true =>
    have hcases := try_true (n := caps.length) h.ok.ql hop hb
    rw [hb, cond_true] at hok'
    rw [cond_true]
    generalize hrr : tryS caps S.qs (opAt sc S p) (S.tick - S.since.getD p.toNat 0) = r at *
    have hcnt : S.next.getD p.toNat 0 = cnt p S.res := by rw [h.nx _ hi, hpp]
    have hlst : S.since.getD p.toNat 0 = lst p S.res 0 := by rw [h.si _ hi, hpp]
    have hopE : opOf sc S.res p = opAt sc S p := by
      show (sc.getD p.toNat []).getD (cnt p S.res) o0 = (sc.getD p.toNat []).getD (S.next.getD p.toNat 0).toNat o0
      rw [hcnt, Int.toNat_natCast]
    refine ⟨hok', h.all.snoc ⟨hp, by simp only; omega, ?_, ?_, ?_, h.ok.tk, fun x hx => ⟨h.tk x hx, fun hxp => ?_⟩⟩, fun q hq => ?_, fun q hq => ?_, fun c hc => ?_, fun e he => ?_, fun q hq hqd e he hep => ?_, fun q hq hqn hk hwt => ?_⟩
    · -- without a channel
      simp only
      rw [hopE]
      intro hc
      rcases hcases with ⟨_, h2, h3, _⟩ | ⟨_, c, xs, h2, h3, _⟩ | ⟨h1, h2, h3, _, h5, h6⟩
      · omega
      · omega
      · have := hw h1 h6
        exact ⟨h1, by omega, h3⟩
    · simp only
      rw [hopE]
      intro c hc hce hk1
      rcases hcases with ⟨h1, h2, h3, _, h5⟩ | ⟨h1, _⟩ | ⟨h1, _⟩
      · rw [← h.qu c hc]
        have : (opAt sc S p).2.1.toNat = c := by omega
        rw [← this]
        exact h5
      · exact absurd hk1 h1
      · omega
    · simp only
      rw [hopE]
      intro c hc hce hk1
      rcases hcases with ⟨h1, _⟩ | ⟨_, c', xs, h2, h3, h4, _⟩ | ⟨_, h2, _⟩
      · exact absurd h1 hk1
      · refine ⟨xs, ?_⟩
        rw [← h.qu c hc]
        have : c'.toNat = c := by omega
        rw [← this]
        exact h4
      · omega
    · simp only at hxp ⊢
      exact h.now p.toNat hi (by rw [hpp]; exact List.mem_cons_self) x hx (by rw [hpp]; exact hxp)
    · simp only
      rw [cnt_app]
      by_cases e : q = p.toNat
      · subst e
        rw [getD_set_same _ _ _ _ (by rw [h.ok.nl]; exact hi), hcnt, hpp, if_pos rfl]
        omega
      · rw [getD_set_other _ _ _ _ _ (fun e2 => e e2.symm), h.nx q hq, if_neg (by simp only; omega)]
        omega
    · simp only
      rw [lst_app]
      by_cases e : q = p.toNat
      · subst e
        rw [getD_set_same _ _ _ _ (by rw [h.ok.sl]; exact hi), if_pos (by simp only; omega)]
      · rw [getD_set_other _ _ _ _ _ (fun e2 => e e2.symm), h.si q hq, if_neg (by simp only; omega)]
    · simp only
      rw [rep_last]
      simp only
      rw [hopE, ← h.qu c hc]
      have hcl : c < S.qs.length := by rw [h.ok.ql]; exact hc
      rcases hcases with ⟨h1, h2, h3, h4, _⟩ | ⟨h1, c', xs, h2, h3, h4, h5⟩ | ⟨h1, h2, _, h4, _⟩
      · rw [h4, h3]
        by_cases e : (opAt sc S p).2.1.toNat = c
        · rw [e, getD_set_same _ _ _ _ hcl, if_pos (by omega), if_pos h1]
        · rw [getD_set_other _ _ _ _ _ e, if_neg (by omega)]
      · rw [h5, h3]
        by_cases e : c'.toNat = c
        · rw [e, getD_set_same _ _ _ _ hcl, if_pos (by omega), if_neg h1]
          rw [e] at h4
          rw [h4]
          rfl
        · rw [getD_set_other _ _ _ _ _ e, if_neg (by omega)]
      · rw [h4, if_neg (by omega)]
    · simp only at he ⊢
      rcases List.mem_append.1 he with he | he
      · exact h.tk e he
      · rw [List.mem_singleton.1 he]
        exact Int.le_refl _
    · simp only at he ⊢
      rcases List.mem_append.1 he with he | he
      · exact h.now q hq (List.mem_cons_of_mem _ hqd) e he hep
      · rw [List.mem_singleton.1 he] at hep
        exact absurd (by simp only at hep; omega) (hne q hqd)
    · by_cases e : q = p.toNat
      · subst e
        rw [if_neg (by rw [hpp]; exact hnd)]
        simp only
        rw [getD_set_same _ _ _ _ (by rw [h.ok.sl]; exact hi)]
        have := (op_ok hv hok' (p := ((p.toNat : Nat) : Int)) ⟨by omega, by omega⟩ (by rw [Int.toNat_natCast]; exact hqn)).wait.2.1
        omega
      · have hqn' : S.next.getD q 0 < ((sc.getD q []).length : Int) := by
          simp only at hqn
          rw [getD_set_other _ _ _ _ _ (fun e2 => e e2.symm)] at hqn
          exact hqn
        have hopq : opAt sc { qs := r.2, next := S.next.set p.toNat (S.next.getD p.toNat 0 + 1), since := S.since.set p.toNat (S.tick + 1), tick := S.tick, res := S.res ++ [(S.tick, (p, (r.1.1, r.1.2.1)))] } (q : Int) = opAt sc S (q : Int) := by
          show (sc.getD (q : Int).toNat []).getD ((S.next.set p.toNat (S.next.getD p.toNat 0 + 1)).getD (q : Int).toNat 0).toNat o0 = _
          rw [Int.toNat_natCast, getD_set_other _ _ _ _ _ (fun e2 => e e2.symm)]
          rfl
        rw [hopq] at hk hwt ⊢
        have := h.due q hq hqn' hk hwt
        simp only [hmem q e] at this
        simp only
        rw [getD_set_other _ _ _ _ _ (fun e2 => e e2.symm)]
        exact this

theorem tr_procs {caps : List Int} {sc : List (List Op)} (hv : Valid caps sc) : ∀ {d : List Int} {S : St}, Tr caps sc S d → Rdy sc S d → Tr caps sc (d.foldl (stepP caps sc) S) []
  | [], _, h, _ => h
  | _ :: _, _, h, hr => by
    rw [List.foldl_cons]
    exact tr_procs hv (h.step hv hr) hr.tail

theorem Tr.next {caps : List Int} {sc : List (List Op)} {S : St} (h : Tr caps sc S []) {d : List Int} (hok : Ok caps sc { S with tick := S.tick + 1 }) (hd : ∀ p : Nat, p < sc.length → S.next.getD p 0 < ((sc.getD p []).length : Int) → (p : Int) ∈ d) : Tr caps sc { S with tick := S.tick + 1 } d := by
  refine ⟨hok, h.all, h.nx, h.si, h.qu, fun e he => by have := h.tk e he; simp only; omega, fun p _ _ e he _ => by have := h.tk e he; simp only; omega, fun p hp hn hk hw => ?_⟩
  rw [if_pos (hd p hp hn)]
  have := h.due p hp hn hk hw
  rw [if_neg List.not_mem_nil] at this
  exact this

theorem ord_all {sc : List (List Op)} {S : St} (p : Nat) (hp : p < sc.length) (hn : S.next.getD p 0 < ((sc.getD p []).length : Int)) : (p : Int) ∈ sortD S.since (ordA sc S) :=
  (sortD_perm S.since (ordA sc S)).mem_iff.2 (ordA_mem.2 ⟨⟨by omega, by omega⟩, by rw [Int.toNat_natCast]; exact hn⟩)

theorem start_tr {caps : List Int} {sc : List (List Op)} (hv : Valid caps sc) : Tr caps sc (start caps sc) (sortD (start caps sc).since (ordA sc (start caps sc))) := by
  refine ⟨start_ok hv, fun i hi => absurd hi (by simp [start]), fun p hp => ?_, fun p hp => ?_, fun c hc => ?_, fun e he => absurd he List.not_mem_nil, fun p _ _ e he => absurd he List.not_mem_nil, fun p hp hn hk hw => ?_⟩
  · simp only [start]
    rw [rep_get _ _ _ _ hp]
    rfl
  · simp only [start]
    rw [rep_get _ _ _ _ hp]
    rfl
  · simp only [start]
    rw [rep_get _ _ _ _ hc]
    rfl
  · rw [if_pos (ord_all p hp hn)]
    have := (op_ok hv (start_ok hv) (p := (p : Int)) ⟨by omega, by omega⟩ (by rw [Int.toNat_natCast]; exact hn)).wait.2.1
    have e : (start caps sc).since.getD p 0 = 0 := by simp only [start]; rw [rep_get _ _ _ _ hp]
    have e2 : (start caps sc).tick = 0 := rfl
    omega

theorem runN_tr {caps : List Int} {sc : List (List Op)} (hv : Valid caps sc) : ∀ n : Nat, Tr caps sc (runN caps sc n) (sortD (runN caps sc n).since (ordA sc (runN caps sc n)))
  | 0 => start_tr hv
  | n + 1 => by
    have h := tr_procs hv (runN_tr hv n) (ord_rdy sc _)
    have htk : (Dl.procs caps sc (runN caps sc n)).tick = (runN caps sc n).tick := (procs_ok (runN_ok hv n).1 (ord_rdy sc _)).2
    have e : runN caps sc (n + 1) = { Dl.procs caps sc (runN caps sc n) with tick := (Dl.procs caps sc (runN caps sc n)).tick + 1 } := by
      rw [htk]
      rfl
    rw [e]
    refine Tr.next h ?_ fun p hp hn => ord_all (S := { Dl.procs caps sc (runN caps sc n) with tick := (Dl.procs caps sc (runN caps sc n)).tick + 1 }) p hp hn
    have hk := (runN_ok hv (n + 1)).1
    rw [e] at hk
    exact hk

end Dl
end Go.Proofs.Ytfkhdfmnhkndeaa

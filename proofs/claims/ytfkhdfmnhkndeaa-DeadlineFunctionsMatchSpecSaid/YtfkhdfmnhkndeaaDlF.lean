/-
  What a tick, Run and Stuck compute. Conditions: none.
-/
import Derived.Test.YtfkhdfmnhkndeaaDlE
namespace Go.Proofs.Ytfkhdfmnhkndeaa
open Eng
namespace Dl

theorem ord_loop {caps : List Int} {sc : List (List Op)} (hv : Valid caps sc) {S : St} (hok : Ok caps sc S) {m : Pool} {hs : List Hd} (hS : Lay m hs S.qs) {K : List Int → Prop} (hK : K (ordA sc S)) :
    ∀ (fu i : Nat), i ≤ sc.length → sc.length - i < fu → L.deadline_machine_step_h40_L1_R sc.length m caps sc S.tick hs S.next S.since S.res fu i (((List.range i).filter fun i => decide (S.next.getD i 0 < ((sc.getD i []).length : Int))).map Int.ofNat) K
  | 0, i, _, h => by omega
  | fu + 1, i, hi, h => by
    show L.deadline_machine_step_h40_L1_b sc.length m caps sc S.tick hs S.next S.since S.res i _ _ K
    unfold L.deadline_machine_step_h40_L1_b
    have hns := hv.ns
    rcases Nat.lt_or_ge i sc.length with g | g
    · refine cond_t (by simp; omega) ⟨hS.okRows, ⟨?_⟩⟩
      unfold L.deadline_machine_left_B
      refine ⟨⟨by omega, by omega⟩, ⟨by omega, by rw [hok.nl]; omega⟩, ?_⟩
      rw [Int.toNat_natCast, i64_succ (by omega)]
      have hnb := hok.nb i g
      have hl8 : (sc.getD i []).length ≤ 8 := hv.len _ (by rw [getD_get _ _ _ g]; exact List.getElem_mem g)
      rw [i64_id (by omega) (by omega)]
      have ih := ord_loop hv hok hS hK fu (i + 1) g (by omega)
      rw [List.range_succ, List.filter_append, List.map_append] at ih
      by_cases hc : S.next.getD i 0 < ((sc.getD i []).length : Int)
      · refine cond_t (decide_eq_true (by omega)) ⟨?_, ?_⟩
        · have : (((List.range i).filter fun i => decide (S.next.getD i 0 < ((sc.getD i []).length : Int))).map Int.ofNat).length ≤ i := by
            rw [List.length_map]
            exact Nat.le_trans (List.length_filter_le _ _) (by simp)
          simp only [fits, List.length_singleton]
          omega
        · rw [List.filter_cons, if_pos (decide_eq_true hc)] at ih
          exact ih
      · refine cond_f (decide_eq_false (by omega)) ?_
        rw [List.filter_cons, if_neg (by simpa using hc)] at ih
        simp only [List.filter_nil, List.map_nil, List.append_nil] at ih
        exact ih
    · obtain rfl : i = sc.length := by omega
      exact cond_f (by simp) hK

theorem ordA_mem {sc : List (List Op)} {S : St} {p : Int} : p ∈ ordA sc S ↔ (0 ≤ p ∧ p < sc.length) ∧ S.next.getD p.toNat 0 < ((sc.getD p.toNat []).length : Int) := by
  unfold ordA
  simp only [List.mem_map, List.mem_filter, List.mem_range, decide_eq_true_eq]
  constructor
  · rintro ⟨i, ⟨h1, h2⟩, rfl⟩
    exact ⟨⟨Int.natCast_nonneg _, by simpa using h1⟩, h2⟩
  · rintro ⟨⟨h1, h2⟩, h3⟩
    exact ⟨p.toNat, ⟨by omega, h3⟩, by simp; omega⟩

theorem ordA_nodup (sc : List (List Op)) (S : St) : (ordA sc S).Nodup := by
  unfold ordA
  refine List.Pairwise.map _ (fun a b h => ?_) (List.Pairwise.filter _ List.nodup_range)
  exact fun e => h (Int.ofNat.inj e)

theorem ordA_len (sc : List (List Op)) (S : St) : (ordA sc S).length ≤ sc.length := by
  unfold ordA
  rw [List.length_map]
  exact Nat.le_trans (List.length_filter_le _ _) (by simp)

theorem ord_rdy (sc : List (List Op)) (S : St) : Rdy sc S (sortD S.since (ordA sc S)) := by
  have hp := sortD_perm S.since (ordA sc S)
  exact ⟨hp.nodup_iff.2 (ordA_nodup sc S), fun p h => (ordA_mem.1 (hp.mem_iff.1 h)).1, fun p h => (ordA_mem.1 (hp.mem_iff.1 h)).2⟩

theorem procs_ok {caps : List Int} {sc : List (List Op)} : ∀ {d : List Int} {S : St}, Ok caps sc S → Rdy sc S d → Ok caps sc (d.foldl (stepP caps sc) S) ∧ (d.foldl (stepP caps sc) S).tick = S.tick
  | [], S, h, _ => ⟨h, rfl⟩
  | p :: d, S, h, hr => by
    obtain ⟨h1, h2⟩ := procs_ok (stepP_ok h (hr.inr p List.mem_cons_self) (hr.left p List.mem_cons_self)) (hr.tail (caps := caps))
    exact ⟨h1, h2.trans stepP_tick⟩

theorem stepT_ok {caps : List Int} {sc : List (List Op)} {S : St} (h : Ok caps sc S) : Ok caps sc (stepT caps sc S) := by
  obtain ⟨h1, h2⟩ := procs_ok h (ord_rdy sc S)
  have e : (procs caps sc S).tick = S.tick := h2
  exact ⟨h1.ql, h1.qb, h1.nl, h1.nb, h1.sl, by have := h.tk; simp only [stepT]; omega, fun i hi => by
    have := h1.sm i hi
    refine ⟨this.1, ?_⟩
    have h3 : (procs caps sc S).since.getD i 0 ≤ (procs caps sc S).tick + 1 := this.2
    simp only [stepT]
    omega, h1.rs⟩

theorem stepP_res {caps : List Int} {sc : List (List Op)} {S : St} {p : Int} : ∃ ext : List Res, (stepP caps sc S p).res = S.res ++ ext ∧ ∀ e, e ∈ ext → e.1 = S.tick := by
  unfold stepP
  cases (tryS caps S.qs (opAt sc S p) (S.tick - S.since.getD p.toNat 0)).1.2.2 with
  | false => exact ⟨[], by simp, fun e he => by cases he⟩
  | true => exact ⟨_, rfl, fun e he => by rw [List.mem_singleton.1 he]⟩

theorem procs_res {caps : List Int} {sc : List (List Op)} : ∀ (d : List Int) (S : St), ∃ ext : List Res, (d.foldl (stepP caps sc) S).res = S.res ++ ext ∧ ∀ e, e ∈ ext → e.1 = S.tick
  | [], S => ⟨[], by simp, fun e he => by cases he⟩
  | p :: d, S => by
    obtain ⟨x1, h1, h2⟩ := stepP_res (caps := caps) (sc := sc) (S := S) (p := p)
    obtain ⟨x2, h3, h4⟩ := procs_res d (stepP caps sc S p)
    refine ⟨x1 ++ x2, by rw [List.foldl_cons, h3, h1, List.append_assoc], fun e he => ?_⟩
    rcases List.mem_append.1 he with he | he
    · exact h2 e he
    · rw [h4 e he, stepP_tick]

theorem stepT_res (caps : List Int) (sc : List (List Op)) (S : St) : ∃ ext : List Res, (stepT caps sc S).res = S.res ++ ext ∧ ∀ e, e ∈ ext → e.1 = S.tick := procs_res _ S

theorem since_small {caps : List Int} {sc : List (List Op)} {S : St} (h : Ok caps sc S) (ht : S.tick < 1000000) : Small S.since := by
  intro x hx
  obtain ⟨i, hi, rfl⟩ := List.getElem_of_mem hx
  have := h.sm i (by rw [← h.sl]; exact hi)
  rw [getD_get _ _ _ hi] at this
  omega

theorem step_ok {caps : List Int} {sc : List (List Op)} (hv : Valid caps sc) {S : St} (hok : Ok caps sc S) (ht : S.tick < 1000000) {m : Pool} {hs : List Hd} (hS : Lay m hs S.qs) {K : Bool → KT}
    (hK : ∀ m' hs', Lay m' hs' (stepT caps sc S).qs → K (decide (((stepT caps sc S).res.length : Int) > (S.res.length : Int))) m' caps sc (stepT caps sc S).tick hs' (stepT caps sc S).next (stepT caps sc S).since (stepT caps sc S).res) :
    L.deadline_machine_step_h40 m caps sc S.tick hs S.next S.since S.res K := by
  refine ⟨⟨⟨sc.length + 1, ?_⟩⟩⟩
  have hns := hv.ns
  have hol := ordA_len sc S
  have hp := sortD_perm S.since (ordA sc S)
  refine ord_loop hv hok hS (K := fun order => L.slices_SortStableFunc_h41 m order caps sc S.tick hs S.next S.since S.res (fun m6 x m7 m8 m9 m10 m11 m12 m13 => L.deadline_machine_step_h40_L2 (x.length : Int) x 0 m6 m7 m8 m9 m10 m11 m12 m13 (fun m14 m15 m16 m17 m18 m19 m20 m22 => K (decide ((m22.length : Int) > (m13.length : Int))) m14 m15 m16 (i64 (m17 + 1)) m18 m19 m20 m22))) ?_ (sc.length + 1) 0 (by omega) (by omega)
  refine sort_ok hS.okRows (since_small hok ht) (fun x hx => ?_) (by omega) ⟨⟨(sortD S.since (ordA sc S)).length + 1, ?_⟩⟩
  · have := (ordA_mem.1 hx).1
    rw [hok.sl]
    exact this
  · have hr := ord_rdy sc S
    have hto := (procs_ok hok hr).2
    refine proc_loop hv (by rw [hp.length_eq]; omega) (S' := procs caps sc S) (fun m' hs' h => ?_) _ 0 S m hs (by omega) (by omega) hS hok (by omega) (by rw [List.drop_zero]; exact hr) (by rw [List.drop_zero]; rfl)
    have e : (procs caps sc S).tick = S.tick := hto
    rw [e, i64_id (by have := hok.tk; omega) (by omega)]
    exact hK m' hs' h

def start (caps : List Int) (sc : List (List Op)) : St := ⟨List.replicate caps.length [], List.replicate sc.length 0, List.replicate sc.length 0, 0, []⟩

/-- So many ticks. -/
def runN (caps : List Int) (sc : List (List Op)) : Nat → St
  | 0 => start caps sc
  | n + 1 => stepT caps sc (runN caps sc n)

theorem rep_get {α} (n i : Nat) (x d : α) (h : i < n) : (List.replicate n x).getD i d = x := by
  rw [getD_get _ _ _ (by simpa using h)]
  simp

theorem start_ok {caps : List Int} {sc : List (List Op)} (hv : Valid caps sc) : Ok caps sc (start caps sc) := by
  refine ⟨by simp [start], fun c hc => ?_, by simp [start], fun i hi => ?_, by simp [start], by simp [start], fun i hi => ?_, ?_⟩
  · have := capsB hv hc
    simp only [start]
    rw [rep_get _ _ _ _ hc]
    simp only [List.length_nil]
    omega
  · simp only [start]
    rw [rep_get _ _ _ _ hi]
    omega
  · simp only [start]
    rw [rep_get _ _ _ _ hi]
    omega
  · simp only [start, List.length_nil]
    generalize sc.length = n
    induction n with
    | zero => rfl
    | succ n ih => rw [List.replicate_succ, List.sum_cons, ← ih]; rfl

theorem runN_ok {caps : List Int} {sc : List (List Op)} (hv : Valid caps sc) : ∀ n : Nat, Ok caps sc (runN caps sc n) ∧ (runN caps sc n).tick = n
  | 0 => ⟨start_ok hv, rfl⟩
  | n + 1 => by
    obtain ⟨h1, h2⟩ := runN_ok hv n
    refine ⟨stepT_ok h1, ?_⟩
    show (runN caps sc n).tick + 1 = _
    rw [h2]
    rfl

def restT (sc : List (List Op)) (S : St) : List Int := (List.range sc.length).map fun i => ((sc.getD i []).length : Int) - S.next.getD i 0

theorem run1_loop {caps : List Int} {sc : List (List Op)} (hv : Valid caps sc) {t : Nat} (ht : t ≤ 60) {K : KT} (hK : ∀ m hs, Lay m hs (runN caps sc t).qs → K m caps sc (runN caps sc t).tick hs (runN caps sc t).next (runN caps sc t).since (runN caps sc t).res) :
    ∀ (fu i : Nat) (m : Pool) (hs : List Hd), i ≤ t → t - i < fu → Lay m hs (runN caps sc i).qs → L.deadline_Run_L1_R t fu i m caps sc (runN caps sc i).tick hs (runN caps sc i).next (runN caps sc i).since (runN caps sc i).res K
  | 0, i, m, hs, _, h, _ => by omega
  | fu + 1, i, m, hs, hi, h, hS => by
    show L.deadline_Run_L1_b t i m caps sc (runN caps sc i).tick hs (runN caps sc i).next (runN caps sc i).since (runN caps sc i).res _ K
    unfold L.deadline_Run_L1_b
    rcases Nat.lt_or_ge i t with g | g
    · obtain ⟨h1, h2⟩ := runN_ok hv i
      refine cond_t (by simp; omega) (step_ok hv h1 (by omega) hS fun m' hs' h' => ?_)
      rw [i64_succ (by omega)]
      exact run1_loop hv ht hK fu (i + 1) m' hs' g (by omega) h'
    · obtain rfl : i = t := by omega
      exact cond_f (by simp) (hK m hs hS)

theorem rest_loop {caps : List Int} {sc : List (List Op)} (hv : Valid caps sc) {S : St} (hok : Ok caps sc S) {m : Pool} {hs : List Hd} (hS : Lay m hs S.qs) {K : List Int → Prop} (hK : K (restT sc S)) :
    ∀ (fu i : Nat), i ≤ sc.length → sc.length - i < fu → L.deadline_Run_L2_R sc.length m caps sc S.tick hs S.next S.since S.res fu i ((List.range i).map fun i => ((sc.getD i []).length : Int) - S.next.getD i 0) K
  | 0, i, _, h => by omega
  | fu + 1, i, hi, h => by
    show L.deadline_Run_L2_b sc.length m caps sc S.tick hs S.next S.since S.res i _ _ K
    unfold L.deadline_Run_L2_b
    have hns := hv.ns
    rcases Nat.lt_or_ge i sc.length with g | g
    · refine cond_t (by simp; omega) ⟨hS.okRows, ⟨?_⟩⟩
      unfold L.deadline_machine_left_B
      refine ⟨⟨by omega, by omega⟩, ⟨by omega, by rw [hok.nl]; omega⟩, ?_⟩
      rw [Int.toNat_natCast, i64_succ (by omega)]
      have hnb := hok.nb i g
      have hl8 : (sc.getD i []).length ≤ 8 := hv.len _ (by rw [getD_get _ _ _ g]; exact List.getElem_mem g)
      rw [i64_id (by omega) (by omega)]
      have ih := rest_loop hv hok hS hK fu (i + 1) g (by omega)
      rw [List.range_succ, List.map_append] at ih
      refine ⟨?_, ih⟩
      simp only [fits, List.length_map, List.length_range, List.length_singleton]
      omega
    · obtain rfl : i = sc.length := by omega
      exact cond_f (by simp) hK

abbrev Bd (sc : List (List Op)) : Prop := ∀ l, l ∈ sc → ∀ o, o ∈ l → o.2.2.2.2.length ≤ 9223372036854775807

theorem open_ok {caps : List Int} {sc : List (List Op)} (hv : Valid caps sc) {m : Pool} {K : Pool → List Int → List (List Op) → Int → List Hd → List Int → List Int → Prop} (hK : K m caps sc 0 (List.replicate caps.length Hd.nil) (List.replicate sc.length 0) (List.replicate sc.length 0)) : L.deadline_open_h4 caps sc m K := by
  have hns := hv.ns
  have hnc := hv.nc
  constructor
  unfold L.deadline_open_h4_B
  have b1 : 0 ≤ (caps.length : Int) ∧ (caps.length : Int) ≤ (caps.length : Int) ∧ (caps.length : Int) ≤ 1073741824 := ⟨by omega, by omega, by omega⟩
  have b2 : 0 ≤ (sc.length : Int) ∧ (sc.length : Int) ≤ (sc.length : Int) ∧ (sc.length : Int) ≤ 1073741824 := ⟨by omega, by omega, by omega⟩
  rw [Int.toNat_natCast, Int.toNat_natCast]
  repeat' (first | exact b1 | exact b2 | exact hK | apply And.intro)

theorem run_ok {caps : List Int} {sc : List (List Op)} (hb : Bd sc) {ticks : Int} {K : Int → Int → List Res → List Int → Prop} (h1 : Valid caps sc → 0 ≤ ticks → ticks ≤ 60 → K 0 0 (runN caps sc ticks.toNat).res (restT sc (runN caps sc ticks.toNat)))
    (h2 : ¬ Valid caps sc → K (valF caps sc).1 (valF caps sc).2 [] []) (h3 : Valid caps sc → ¬ (0 ≤ ticks ∧ ticks ≤ 60) → K 3 (-20) [] []) : L.deadline_Run caps sc ticks K := by
  constructor
  unfold L.deadline_Run_B
  refine validate_ok hb (fun hv _ => cond_f rfl ?_) fun hv hc => cond_t ?_ (h2 hv)
  · by_cases ht : 0 ≤ ticks ∧ ticks ≤ 60
    · refine cond_f (by simp; omega) (open_ok hv ?_)
      obtain ⟨t, rfl⟩ : ∃ t : Nat, ticks = t := ⟨ticks.toNat, by omega⟩
      have hk := h1 hv ht.1 ht.2
      rw [Int.toNat_natCast] at hk
      refine ⟨⟨t + 1, ?_⟩⟩
      refine run1_loop hv (t := t) (by omega) (fun m hs hS => ⟨⟨sc.length + 1, ?_⟩⟩) (t + 1) 0 [] _ (by omega) (by omega) (Lay.new [] caps.length)
      exact rest_loop hv (runN_ok hv t).1 hS (K := fun rest => (okRows m .hnd hs) ∧ K 0 0 (runN caps sc t).res rest) ⟨hS.okRows, hk⟩ (sc.length + 1) 0 (by omega) (by omega)
    · exact cond_t (by simp; omega) (h3 hv ht)
  · simp [beq_eq_false_iff_ne.2 hc]

/-- The processes that are not through. -/
def stuckT (sc : List (List Op)) (S : St) : List Int := ordA sc S

theorem out_loop {caps : List Int} {sc : List (List Op)} (hv : Valid caps sc) {S : St} (hok : Ok caps sc S) {m : Pool} {hs : List Hd} (hS : Lay m hs S.qs) {K : List Int → Prop} (hK : K (ordA sc S)) :
    ∀ (fu i : Nat), i ≤ sc.length → sc.length - i < fu → L.deadline_Stuck_L2_R sc.length m caps sc S.tick hs S.next S.since S.res fu i (((List.range i).filter fun i => decide (S.next.getD i 0 < ((sc.getD i []).length : Int))).map Int.ofNat) K
  | 0, i, _, h => by omega
  | fu + 1, i, hi, h => by
    show L.deadline_Stuck_L2_b sc.length m caps sc S.tick hs S.next S.since S.res i _ _ K
    unfold L.deadline_Stuck_L2_b
    have hns := hv.ns
    rcases Nat.lt_or_ge i sc.length with g | g
    · refine cond_t (by simp; omega) ⟨hS.okRows, ⟨?_⟩⟩
      unfold L.deadline_machine_left_B
      refine ⟨⟨by omega, by omega⟩, ⟨by omega, by rw [hok.nl]; omega⟩, ?_⟩
      rw [Int.toNat_natCast, i64_succ (by omega)]
      have hnb := hok.nb i g
      have hl8 : (sc.getD i []).length ≤ 8 := hv.len _ (by rw [getD_get _ _ _ g]; exact List.getElem_mem g)
      rw [i64_id (by omega) (by omega)]
      have ih := out_loop hv hok hS hK fu (i + 1) g (by omega)
      rw [List.range_succ, List.filter_append, List.map_append] at ih
      by_cases hc : S.next.getD i 0 < ((sc.getD i []).length : Int)
      · refine cond_t (decide_eq_true (by omega)) ⟨?_, ?_⟩
        · have : (((List.range i).filter fun i => decide (S.next.getD i 0 < ((sc.getD i []).length : Int))).map Int.ofNat).length ≤ i := by
            rw [List.length_map]
            exact Nat.le_trans (List.length_filter_le _ _) (by simp)
          simp only [fits, List.length_singleton]
          omega
        · rw [List.filter_cons, if_pos (decide_eq_true hc)] at ih
          exact ih
      · refine cond_f (decide_eq_false (by omega)) ?_
        rw [List.filter_cons, if_neg (by simpa using hc)] at ih
        simp only [List.filter_nil, List.map_nil, List.append_nil] at ih
        exact ih
    · obtain rfl : i = sc.length := by omega
      exact cond_f (by simp) hK

/-- Nothing has happened for so long. -/
def Quiet (caps : List Int) (sc : List (List Op)) (n i : Nat) : Prop := ∃ q, q ≤ n ∧ i ≤ q + 1 ∧ (runN caps sc (n - q)).res.length = (runN caps sc n).res.length

theorem stuck_loop {caps : List Int} {sc : List (List Op)} (hv : Valid caps sc) {K : KT} (hK : ∀ n, 62 ≤ n → n ≤ 2542 → Quiet caps sc n 62 → ∀ m hs, Lay m hs (runN caps sc n).qs → K m caps sc (runN caps sc n).tick hs (runN caps sc n).next (runN caps sc n).since (runN caps sc n).res) :
    ∀ (fu n i : Nat) (m : Pool) (hs : List Hd), Quiet caps sc n i → i ≤ n → i ≤ 62 → n + ((40 - (runN caps sc n).res.length) * 62 + (62 - i)) ≤ 2542 → (40 - (runN caps sc n).res.length) * 62 + (62 - i) < fu → Lay m hs (runN caps sc n).qs →
    L.deadline_Stuck_L1_R fu i m caps sc (runN caps sc n).tick hs (runN caps sc n).next (runN caps sc n).since (runN caps sc n).res K
  | 0, n, i, m, hs, _, _, _, _, h, _ => by omega
  | fu + 1, n, i, m, hs, hq, hin, hi, hmx, h, hS => by
    show L.deadline_Stuck_L1_b i m caps sc (runN caps sc n).tick hs (runN caps sc n).next (runN caps sc n).since (runN caps sc n).res _ K
    unfold L.deadline_Stuck_L1_b
    obtain ⟨h1, h2⟩ := runN_ok hv n
    obtain ⟨h3, h4⟩ := runN_ok hv (n + 1)
    have r1 := res_le hv h1
    have r2 := res_le hv h3
    by_cases g : i ≤ 61
    · refine cond_t (by simp; omega) (step_ok hv h1 (by omega) hS fun m' hs' h' => ?_)
      by_cases hp : ((stepT caps sc (runN caps sc n)).res.length : Int) > ((runN caps sc n).res.length : Int)
      · have hp' : (runN caps sc (n + 1)).res.length > (runN caps sc n).res.length := by
          have : ((runN caps sc (n + 1)).res.length : Int) > ((runN caps sc n).res.length : Int) := hp
          omega
        refine cond_t (decide_eq_true hp) ?_
        rw [show i64 ((0 : Int) + 1) = ((1 : Nat) : Int) from by decide]
        exact stuck_loop hv hK fu (n + 1) 1 m' hs' ⟨0, by omega, by omega, rfl⟩ (by omega) (by omega) (by omega) (by omega) h'
      · have hp' : (runN caps sc (n + 1)).res.length ≤ (runN caps sc n).res.length := by
          have : ¬ ((runN caps sc (n + 1)).res.length : Int) > ((runN caps sc n).res.length : Int) := hp
          omega
        have hge : (runN caps sc n).res.length ≤ (runN caps sc (n + 1)).res.length := by
          obtain ⟨ext, he, _⟩ := stepT_res caps sc (runN caps sc n)
          show _ ≤ (stepT caps sc (runN caps sc n)).res.length
          rw [he]
          simp
        refine cond_f (decide_eq_false hp) ?_
        rw [i64_succ (by omega)]
        exact stuck_loop hv hK fu (n + 1) (i + 1) m' hs' (by
          obtain ⟨q, q1, q2, q3⟩ := hq
          exact ⟨q + 1, by omega, by omega, by rw [show n + 1 - (q + 1) = n - q by omega, q3]; omega⟩) (by omega) (by omega) (by omega) (by omega) h'
    · exact cond_f (by simp; omega) (hK n (by omega) (by omega) (by obtain ⟨q, q1, q2, q3⟩ := hq; exact ⟨q, q1, by omega, q3⟩) m hs hS)

theorem stuck_ok {caps : List Int} {sc : List (List Op)} (hb : Bd sc) {K : Int → Int → List Int → Prop} (h1 : Valid caps sc → ∀ n, 62 ≤ n → n ≤ 2542 → Quiet caps sc n 62 → K 0 0 (ordA sc (runN caps sc n)))
    (h2 : ¬ Valid caps sc → K (valF caps sc).1 (valF caps sc).2 []) : L.deadline_Stuck caps sc K := by
  constructor
  unfold L.deadline_Stuck_B
  refine validate_ok hb (fun hv _ => cond_f rfl (open_ok hv ?_)) fun hv hc => cond_t ?_ (h2 hv)
  · have m1 : 0 + ((40 - (runN caps sc 0).res.length) * 62 + (62 - 0)) ≤ 2542 := by rw [show (runN caps sc 0).res.length = 0 from rfl]; omega
    have m2 : (40 - (runN caps sc 0).res.length) * 62 + (62 - 0) < 2543 := by rw [show (runN caps sc 0).res.length = 0 from rfl]; omega
    have fin : ∀ n, 62 ≤ n → n ≤ 2542 → Quiet caps sc n 62 → ∀ m hs, Lay m hs (runN caps sc n).qs → L.deadline_Stuck_L2 (sc.length : Int) m caps sc (runN caps sc n).tick hs (runN caps sc n).next (runN caps sc n).since (runN caps sc n).res 0 ([] : List Int) (fun out => (okRows m .hnd hs) ∧ K 0 0 out) :=
      fun n hn hn2 hq m hs hS => ⟨⟨sc.length + 1, out_loop hv (runN_ok hv n).1 hS (K := fun out => (okRows m .hnd hs) ∧ K 0 0 out) ⟨hS.okRows, h1 hv n hn hn2 hq⟩ (sc.length + 1) 0 (by omega) (by omega)⟩⟩
    exact ⟨⟨2543, stuck_loop hv fin 2543 0 0 [] _ ⟨0, by omega, by omega, rfl⟩ (by omega) (by omega) m1 m2 (Lay.new [] caps.length)⟩⟩
  · simp [beq_eq_false_iff_ne.2 hc]

end Dl
end Go.Proofs.Ytfkhdfmnhkndeaa

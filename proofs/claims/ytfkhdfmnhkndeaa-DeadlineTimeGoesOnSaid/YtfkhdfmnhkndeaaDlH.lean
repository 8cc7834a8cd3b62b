/-
  The laws of the simulation as plain laws about the lifted functions: the example, timeouts, time, sums. Conditions: none.
-/
import Derived.Test.YtfkhdfmnhkndeaaDlG
namespace Go.Proofs.Ytfkhdfmnhkndeaa
open Eng
namespace Dl

theorem eqi_loop {xs : List Int} (hb : xs.length < 1000) {K0 : Prop} {K : Bool → Prop} (hK : K0) : ∀ (fu i : Nat), i ≤ xs.length → xs.length - i < fu → L.ref8_EqualInts_L1_R xs xs fu i K0 K
  | 0, i, _, h => by omega
  | fu + 1, i, hi, h => by
    show L.ref8_EqualInts_L1_b xs xs i _ K0 K
    unfold L.ref8_EqualInts_L1_b
    rcases Nat.lt_or_ge i xs.length with g | g
    · refine cond_t (by simp; omega) ⟨⟨by omega, by omega⟩, ⟨by omega, by omega⟩, cond_f (by simp) ?_⟩
      rw [i64_succ (by omega)]
      exact eqi_loop hb hK fu (i + 1) g (by omega)
    · exact cond_f (by simp; omega) hK

theorem eqi_ok {xs : List Int} (hb : xs.length < 1000) {K : Bool → Prop} (hK : K true) : L.ref8_EqualInts xs xs K :=
  ⟨cond_f (by simp) ⟨⟨xs.length + 1, eqi_loop hb hK (xs.length + 1) 0 (by omega) (by omega)⟩⟩⟩

theorem eqr_loop {xs : List Res} (hb : xs.length < 1000) {K0 : Prop} {K : Bool → Prop} (hK : K0) : ∀ (fu i : Nat), i ≤ xs.length → xs.length - i < fu → L.ref8_EqualResults_L1_R xs xs fu i K0 K
  | 0, i, _, h => by omega
  | fu + 1, i, hi, h => by
    show L.ref8_EqualResults_L1_b xs xs i _ K0 K
    unfold L.ref8_EqualResults_L1_b
    rcases Nat.lt_or_ge i xs.length with g | g
    · refine cond_t (by simp; omega) ⟨⟨by omega, by omega⟩, ⟨by omega, by omega⟩, cond_f (by simp) ?_⟩
      rw [i64_succ (by omega)]
      exact eqr_loop hb hK fu (i + 1) g (by omega)
    · exact cond_f (by simp; omega) hK

theorem eqr_ok {xs : List Res} (hb : xs.length < 1000) {K : Bool → Prop} (hK : K true) : L.ref8_EqualResults xs xs K :=
  ⟨cond_f (by simp) ⟨⟨xs.length + 1, eqr_loop hb hK (xs.length + 1) 0 (by omega) (by omega)⟩⟩⟩

abbrev exS : List (List Op) := [[(1, (0, (5, (0, []))))], [(2, (0, (0, (0, [])))), (2, (0, (0, (0, []))))]]

theorem ex_valid : Valid [1] exS := by
  refine ⟨by decide, by decide, fun n hn => ?_, fun l hl => ?_, fun l hl o ho => ?_⟩
  · rw [List.mem_singleton.1 hn]; decide
  · simp only [exS, List.mem_cons, List.not_mem_nil, or_false] at hl
    rcases hl with rfl | rfl <;> decide
  · simp only [exS, List.mem_cons, List.not_mem_nil, or_false] at hl
    have h1 : OpOk 1 (1, (0, (5, (0, [])))) := ⟨by decide, by decide, by decide, by decide, by decide, by decide, by decide, fun c hc => absurd hc List.not_mem_nil, by decide, by decide⟩
    have h2 : OpOk 1 (2, (0, (0, (0, [])))) := ⟨by decide, by decide, by decide, by decide, by decide, by decide, by decide, fun c hc => absurd hc List.not_mem_nil, by decide, by decide⟩
    rcases hl with rfl | rfl
    · rw [List.mem_singleton.1 ho]; exact h1
    · simp only [List.mem_cons, List.not_mem_nil, or_false, or_self] at ho
      rw [ho]; exact h2

theorem ex_run : ∀ n : Nat, runN [1] exS (n + 1) = ⟨[[]], [1, 1], [1, 1], (n : Int) + 1, [(0, (0, (0, 5))), (0, (1, (0, 5)))]⟩
  | 0 => rfl
  | n + 1 => by
    show stepT [1] exS (runN [1] exS (n + 1)) = _
    rw [ex_run n]
    rfl

theorem example_ok {K : Bool → Prop} (hK : K true) : L.law8_deadlineExample K := by
  have hb : Bd exS := fun l hl o ho => by
    have := (ex_valid.ops l hl o ho).few
    omega
  refine ⟨run_ok hb (fun _ _ _ => ?_) fun h => absurd ⟨ex_valid, by decide, by decide⟩ h⟩
  rw [show (3 : Int).toNat = 2 + 1 from rfl, ex_run 2]
  refine stuck_ok hb (fun _ n h1 _ => ?_) fun h => absurd ex_valid h
  obtain ⟨m, rfl⟩ : ∃ m, n = m + 1 := ⟨n - 1, by omega⟩
  rw [ex_run m]
  refine cond_t rfl ?_
  exact eqr_ok (by decide) (cond_t rfl (eqi_ok (xs := [0, 1]) (by decide) (cond_t rfl (eqi_ok (xs := [1]) (by decide) hK))))

theorem take_snoc {l : List Res} {i : Nat} (hi : i < l.length) : l.take (i + 1) = l.take i ++ [l.getD i r0] := by
  rw [List.take_add_one, List.getElem?_eq_getElem hi, getD_get _ _ _ hi]
  rfl

theorem cnt_le (p : Int) (l : List Res) : cnt p l ≤ l.length := List.length_filter_le _ _

/-- Results that are few and early. -/
structure Mild (l : List Res) : Prop where
  few : l.length ≤ 40
  early : ∀ e, e ∈ l → 0 ≤ e.1 ∧ e.1 ≤ 3000

theorem Mild.get {l : List Res} (h : Mild l) {i : Nat} (hi : i < l.length) : 0 ≤ (l.getD i r0).1 ∧ (l.getD i r0).1 ≤ 3000 := by
  rw [getD_get _ _ _ hi]
  exact h.early _ (List.getElem_mem hi)

theorem runN_mild {caps : List Int} {sc : List (List Op)} (hv : Valid caps sc) {n : Nat} (hn : n ≤ 2542) : Mild (runN caps sc n).res := by
  have ht := runN_tr hv n
  refine ⟨res_le hv (runN_ok hv n).1, fun e he => ⟨?_, ?_⟩⟩
  · obtain ⟨i, hi, rfl⟩ := List.getElem_of_mem he
    have := (ht.all i hi).tk
    rw [getD_get _ _ _ hi] at this
    exact this
  · have := ht.tk e he
    have := (runN_ok hv n).2
    omega

theorem lst_bound {p : Int} : ∀ {l : List Res} {d : Int}, (∀ e, e ∈ l → 0 ≤ e.1 ∧ e.1 ≤ 3000) → 0 ≤ d ∧ d ≤ 3001 → 0 ≤ lst p l d ∧ lst p l d ≤ 3001
  | [], _, _, h => h
  | e :: l, d, hl, h => by
    unfold lst
    refine lst_bound (fun x hx => hl x (List.mem_cons_of_mem _ hx)) ?_
    have := hl e List.mem_cons_self
    split <;> omega

theorem wait_inner {l : List Res} (hm : Mild l) {i : Nat} (hi : i ≤ l.length) {p : Int} {K : Int → Int → Prop} (hK : K (cnt p (l.take i)) (lst p (l.take i) 0)) : ∀ (fu k : Nat), k ≤ i → i - k < fu →
    L.law8_DeadlineTimeoutsWait_L1_R i p l fu (cnt p (l.take k)) (lst p (l.take k) 0) k K
  | 0, k, _, h => by omega
  | fu + 1, k, hk, h => by
    show L.law8_DeadlineTimeoutsWait_L1_b i p l (cnt p (l.take k)) (lst p (l.take k) 0) k _ K
    unfold L.law8_DeadlineTimeoutsWait_L1_b
    have hfew := hm.few
    rcases Nat.lt_or_ge k i with g | g
    · have hb : inB (k : Int) l.length := ⟨by omega, by omega⟩
      refine cond_t (by simp; omega) ⟨hb, ?_⟩
      rw [Int.toNat_natCast, i64_succ (i := k) (by omega)]
      have ih := wait_inner hm hi hK fu (k + 1) g (by omega)
      rw [take_snoc (by omega), cnt_app, lst_app] at ih
      by_cases he : (l.getD k r0).2.1 = p
      · have h1 := cnt_le p (l.take k)
        have h2 := hm.get (i := k) (by omega)
        rw [List.length_take] at h1
        refine cond_t (beq_iff_eq.2 he) ⟨hb, ?_⟩
        rw [if_pos he, if_pos he] at ih
        rw [i64_id (n := (cnt p (l.take k) : Int) + 1) (by omega) (by omega), i64_id (n := (l.getD k r0).1 + 1) (by omega) (by omega)]
        exact_mod_cast ih
      · refine cond_f (beq_eq_false_iff_ne.2 he) ?_
        rw [if_neg he, if_neg he, Nat.add_zero] at ih
        exact ih
    · obtain rfl : k = i := by omega
      exact cond_f (by simp) hK

theorem wait_loop {caps : List Int} {sc : List (List Op)} {l : List Res} (hm : Mild l) (hf : AllFit caps sc l) {K0 : Prop} {Kr : Bool → Prop} (hK : K0) : ∀ (fu i : Nat), i ≤ l.length → l.length - i < fu → L.law8_DeadlineTimeoutsWait_L2_R sc l 0 fu i K0 Kr
  | 0, i, _, h => by omega
  | fu + 1, i, hi, h => by
    show L.law8_DeadlineTimeoutsWait_L2_b sc l 0 i _ K0 Kr
    unfold L.law8_DeadlineTimeoutsWait_L2_b
    have hfew := hm.few
    rcases Nat.lt_or_ge i l.length with g | g
    · have hb : inB (i : Int) l.length := ⟨by omega, by omega⟩
      refine cond_t (by simp; omega) ⟨hb, ?_⟩
      rw [Int.toNat_natCast, i64_succ (by omega)]
      have ih := wait_loop hm hf (Kr := Kr) hK fu (i + 1) g (by omega)
      have hfi := hf i g
      generalize hx : l.getD i r0 = x at *
      by_cases hc : x.2.2.1 = -1
      · obtain ⟨o1, o2, o3⟩ := hfi.out hc
        refine cond_f (by rw [hc]; decide) ⟨hb, ⟨⟨i + 1, ?_⟩⟩⟩
        refine wait_inner hm hi ?_ (i + 1) 0 (by omega) (by omega)
        have hp := hfi.pr
        have ho := hfi.op
        have hpb : inB x.2.1 sc.length := hp
        have hnb : inB ((cnt x.2.1 (l.take i) : Nat) : Int) (sc.getD x.2.1.toNat []).length := ⟨by omega, by omega⟩
        have hls := lst_bound (p := x.2.1) (l := l.take i) (d := 0) (fun e he => hm.early e (List.mem_of_mem_take he)) (by omega)
        have hg := hm.get g
        rw [hx] at hg
        refine ⟨fun _ => hpb, fun _ => hpb, fun _ => hnb, fun _ => hb, fun _ => hpb, fun _ => hnb, fun _ => hb, cond_f ?_ ih⟩
        rw [Int.toNat_natCast]
        have d1 : decide (x.2.1 < 0) = false := decide_eq_false (by omega)
        have d2 : decide (x.2.1 ≥ (sc.length : Int)) = false := decide_eq_false (by omega)
        have d3 : decide (((cnt x.2.1 (l.take i) : Nat) : Int) ≥ ((sc.getD x.2.1.toNat []).length : Int)) = false := decide_eq_false (by omega)
        have d4 : decide (((sc.getD x.2.1.toNat []).getD (cnt x.2.1 (l.take i)) o0).1 < 3) = false := decide_eq_false (by unfold opOf at o1; omega)
        have d5 : (i64 (x.1 - lst x.2.1 (l.take i) 0) != ((sc.getD x.2.1.toNat []).getD (cnt x.2.1 (l.take i)) o0).2.2.2.1) = false := by
          rw [i64_id (by omega) (by omega), bne_eq_false_iff_eq]
          exact o2
        have d6 : (x.2.2.2 != 0) = false := by rw [bne_eq_false_iff_eq]; exact o3
        rw [d1, d2, d3, d4, d5, d6]
        rfl
      · exact cond_t (bne_iff_ne.2 hc) ih
    · exact cond_f (by simp; omega) hK

theorem wait_true {caps : List Int} {sc : List (List Op)} (hb : Bd sc) (ticks : Int) (K : Bool → Prop) (hK : K true) : L.law8_DeadlineTimeoutsWait caps sc ticks K := by
  refine ⟨run_ok hb (fun hv h0 h1 => example_ok (cond_f rfl ?_)) fun _ c i hc => example_ok (cond_f rfl ⟨⟨1, ?_⟩⟩)⟩
  · exact ⟨⟨(runN caps sc ticks.toNat).res.length + 1, wait_loop (runN_mild hv (by omega)) (runN_tr hv _).all (K0 := K true) (Kr := K) hK _ 0 (by omega) (by omega)⟩⟩
  · refine cond_f ?_ hK
    rw [beq_eq_false_iff_ne.2 hc]; rfl

/-- More ticks append later results. -/
theorem runN_pre (caps : List Int) (sc : List (List Op)) (hv : Valid caps sc) (n : Nat) : ∀ k : Nat, ∃ ext : List Res, (runN caps sc (n + k)).res = (runN caps sc n).res ++ ext ∧ ∀ e, e ∈ ext → (n : Int) ≤ e.1
  | 0 => ⟨[], by simp, fun e he => by cases he⟩
  | k + 1 => by
    obtain ⟨x1, h1, h2⟩ := runN_pre caps sc hv n k
    obtain ⟨x2, h3, h4⟩ := stepT_res caps sc (runN caps sc (n + k))
    refine ⟨x1 ++ x2, ?_, fun e he => ?_⟩
    · show (stepT caps sc (runN caps sc (n + k))).res = _
      rw [h3, h1, List.append_assoc]
    · rcases List.mem_append.1 he with he | he
      · exact h2 e he
      · rw [h4 e he, (runN_ok hv (n + k)).2]
        omega

theorem runN_lt {caps : List Int} {sc : List (List Op)} (hv : Valid caps sc) : ∀ (n : Nat) (e : Res), e ∈ (runN caps sc n).res → e.1 < n
  | 0, e, he => by cases he
  | n + 1, e, he => by
    obtain ⟨x, h1, h2⟩ := stepT_res caps sc (runN caps sc n)
    have he' : e ∈ (stepT caps sc (runN caps sc n)).res := he
    rw [h1] at he'
    rcases List.mem_append.1 he' with he | he
    · have := runN_lt hv n e he
      omega
    · rw [h2 e he, (runN_ok hv n).2]
      omega

theorem time_inner {caps : List Int} {sc : List (List Op)} {l : List Res} (hm : Mild l) (hf : AllFit caps sc l) {i : Nat} (hi : i < l.length) {K2 : Prop} {Kr : Bool → Prop} (hK : K2) : ∀ (fu k : Nat), k ≤ i → i - k < fu → L.law8_DeadlineTimeGoesOn_L1_R i l fu k K2 Kr
  | 0, k, _, h => by omega
  | fu + 1, k, hk, h => by
    show L.law8_DeadlineTimeGoesOn_L1_b i l k _ K2 Kr
    unfold L.law8_DeadlineTimeGoesOn_L1_b
    have hfew := hm.few
    rcases Nat.lt_or_ge k i with g | g
    · have hb : inB (k : Int) l.length := ⟨by omega, by omega⟩
      have hb2 : inB (i : Int) l.length := ⟨by omega, by omega⟩
      refine cond_t (by simp; omega) ⟨hb, hb2, fun _ => hb, fun _ => hb2, cond_f ?_ ?_⟩
      · rw [Int.toNat_natCast, Int.toNat_natCast]
        have hmem : l.getD k r0 ∈ l.take i := by
          rw [getD_get _ _ _ (show k < l.length by omega), ← List.getElem_take (j := i) (h := by simp; omega)]
          exact List.getElem_mem _
        have ho := ((hf i hi).ord _ hmem).2
        by_cases he : (l.getD k r0).2.1 = (l.getD i r0).2.1
        · rw [beq_iff_eq.2 he]
          have := ho he
          show ((l.getD k r0).1 == (l.getD i r0).1) = false
          exact beq_eq_false_iff_ne.2 (by omega)
        · rw [beq_eq_false_iff_ne.2 he]
          rfl
      · rw [i64_succ (by omega)]
        exact time_inner hm hf hi hK fu (k + 1) g (by omega)
    · exact cond_f (by simp; omega) hK

theorem time_loop {caps : List Int} {sc : List (List Op)} {a l : List Res} (hm : Mild l) (hf : AllFit caps sc l) {ticks more : Int} (hal : a.length ≤ l.length) (hlt : ∀ e, e ∈ l → e.1 < more) (hsp : ∀ i, i < l.length → (i < a.length ↔ (l.getD i r0).1 < ticks))
    {K0 : Prop} {Kr : Bool → Prop} (hK : K0) : ∀ (fu i : Nat), i ≤ l.length → l.length - i < fu → L.law8_DeadlineTimeGoesOn_L2_R ticks more a l fu i K0 Kr
  | 0, i, _, h => by omega
  | fu + 1, i, hi, h => by
    show L.law8_DeadlineTimeGoesOn_L2_b ticks more a l i _ K0 Kr
    unfold L.law8_DeadlineTimeGoesOn_L2_b
    have hfew := hm.few
    rcases Nat.lt_or_ge i l.length with g | g
    · have hb : inB (i : Int) l.length := ⟨by omega, by omega⟩
      have hb1 : decide ((i : Int) > 0) = true → inB (i64 ((i : Int) - 1)) l.length := fun h => by
        have : 0 < i := by have := of_decide_eq_true h; omega
        rw [i64_id (by omega) (by omega)]
        exact ⟨by omega, by omega⟩
      refine cond_t (by simp; omega) ⟨hb, fun _ => hb, fun _ _ => hb, fun _ h => hb1 (by simpa using h), fun _ => hb, cond_f ?_ ?_⟩
      · rw [Int.toNat_natCast]
        have hg := hm.get g
        have d1 : decide ((l.getD i r0).1 < 0) = false := decide_eq_false (by omega)
        have d2 : decide ((l.getD i r0).1 ≥ more) = false := decide_eq_false (by
          have := hlt (l.getD i r0) (by rw [getD_get _ _ _ g]; exact List.getElem_mem g)
          omega)
        have d3 : (bif decide ((i : Int) > 0) then decide ((l.getD i r0).1 < (l.getD (i64 ((i : Int) - 1)).toNat r0).1) else false) = false := by
          by_cases h0 : 0 < i
          · have e1 : (i64 ((i : Int) - 1)).toNat = i - 1 := by rw [i64_id (by omega) (by omega)]; omega
            have hmem : l.getD (i - 1) r0 ∈ l.take i := by
              rw [getD_get _ _ _ (show i - 1 < l.length by omega), ← List.getElem_take (j := i) (h := by simp; omega)]
              exact List.getElem_mem _
            have := ((hf i g).ord _ hmem).1
            rw [e1, decide_eq_true (show (i : Int) > 0 by omega), decide_eq_false (show ¬ (l.getD i r0).1 < (l.getD (i - 1) r0).1 by omega)]
            rfl
          · rw [decide_eq_false (show ¬ (i : Int) > 0 by omega)]
            rfl
        have d4 : (!((decide ((i : Int) < (a.length : Int))) == (decide ((l.getD i r0).1 < ticks)))) = false := by
          have hs := hsp i g
          by_cases h1 : i < a.length
          · rw [decide_eq_true (show (i : Int) < (a.length : Int) by omega), decide_eq_true (hs.1 h1)]
            rfl
          · rw [decide_eq_false (show ¬ (i : Int) < (a.length : Int) by omega), decide_eq_false (fun h => h1 (hs.2 h))]
            rfl
        rw [d1, d2, d3, d4]
        rfl
      · refine ⟨⟨i + 1, ?_⟩⟩
        refine time_inner hm hf g ?_ (i + 1) 0 (by omega) (by omega)
        rw [i64_succ (by omega)]
        exact time_loop hm hf hal hlt hsp hK fu (i + 1) g (by omega)
    · exact cond_f (by simp; omega) hK

theorem time_true {caps : List Int} {sc : List (List Op)} (hb : Bd sc) (ticks more : Int) (K : Bool → Prop) (hK : K true) : L.law8_DeadlineTimeGoesOn caps sc ticks more K := by
  refine ⟨run_ok hb (fun hv h0 h1 => run_ok hb (fun _ h2 h3 => example_ok (cond_f rfl ?_)) fun _ c i hc => example_ok (cond_f rfl (cond_t ?_ hK))) fun _ c i hc => run_ok hb (fun hv h2 h3 => example_ok (cond_f rfl (cond_t ?_ hK))) fun _ c2 i2 hc2 => example_ok (cond_f rfl (cond_t ?_ hK))⟩
  · by_cases hle : ticks ≤ more
    · refine cond_f (by simp; omega) ?_
      obtain ⟨n, rfl⟩ : ∃ n : Nat, ticks = n := ⟨ticks.toNat, by omega⟩
      obtain ⟨k, rfl⟩ : ∃ k : Nat, more = ((n + k : Nat) : Int) := ⟨(more - n).toNat, by omega⟩
      rw [Int.toNat_natCast, Int.toNat_natCast]
      obtain ⟨ext, hx1, hx2⟩ := runN_pre caps sc hv n k
      have hm := runN_mild hv (n := n + k) (by omega)
      have hal : (runN caps sc n).res.length ≤ (runN caps sc (n + k)).res.length := by rw [hx1]; simp
      have hfew := hm.few
      have htake : (runN caps sc (n + k)).res.take (runN caps sc n).res.length = (runN caps sc n).res := by rw [hx1, List.take_left']; rfl
      refine cond_f (by simp; omega) ⟨⟨by omega, by omega⟩, ?_⟩
      rw [List.drop_zero, Int.toNat_natCast, htake]
      refine eqr_ok (by omega) ⟨cond_f rfl ⟨⟨⟨(runN caps sc (n + k)).res.length + 1, ?_⟩⟩⟩⟩
      refine time_loop hm (runN_tr hv (n + k)).all hal (fun e he => runN_lt hv (n + k) e he) (fun i hi => ?_) hK _ 0 (by omega) (by omega)
      rcases Nat.lt_or_ge i (runN caps sc n).res.length with g | g
      · refine ⟨fun _ => ?_, fun _ => g⟩
        rw [getD_get _ _ _ hi]
        have e : (runN caps sc (n + k)).res[i] = (runN caps sc n).res[i] := by
          simp only [hx1]
          exact List.getElem_append_left g
        rw [e]
        exact runN_lt hv n _ (List.getElem_mem g)
      · refine ⟨fun h => by omega, fun h => ?_⟩
        exfalso
        rw [getD_get _ _ _ hi] at h
        have hi2 : i - (runN caps sc n).res.length < ext.length := by
          rw [hx1, List.length_append] at hi
          omega
        have e : (runN caps sc (n + k)).res[i] = ext[i - (runN caps sc n).res.length] := by
          simp only [hx1]
          exact List.getElem_append_right g
        rw [e] at h
        have := hx2 _ (List.getElem_mem hi2)
        omega
    · exact cond_t (by simp; omega) hK
  · rw [bne_iff_ne.2 hc]; rfl
  · rw [bne_iff_ne.2 hc]; rfl
  · rw [bne_iff_ne.2 hc]; rfl

theorem has_out {xs : List Int} {v : Int} (hb : xs.length ≤ 1000) (hn : v ∉ xs) {K0 : Prop} {Kr : Bool → Prop} (hK : K0) : ∀ (fu i : Nat), i ≤ xs.length → xs.length - i < fu → L.ref8_Has_L1_R xs v fu i K0 Kr
  | 0, i, _, h => by omega
  | fu + 1, i, hi, h => by
    show L.ref8_Has_L1_b xs v i _ K0 Kr
    unfold L.ref8_Has_L1_b
    rcases Nat.lt_or_ge i xs.length with g | g
    · refine cond_t (by simp; omega) ⟨⟨by omega, by omega⟩, cond_f ?_ ?_⟩
      · rw [Int.toNat_natCast, getD_get _ _ _ g]
        exact beq_eq_false_iff_ne.2 fun e => hn (e ▸ List.getElem_mem g)
      · rw [i64_succ (by omega)]
        exact has_out hb hn hK fu (i + 1) g (by omega)
    · exact cond_f (by simp; omega) hK

theorem sum_inner {l : List Res} (hm : Mild l) {p : Nat} {s : Int} (hs : 0 ≤ s ∧ s ≤ 1000) {K : Int → Prop} (hK : K (s + cnt p l)) : ∀ (fu i : Nat), i ≤ l.length → l.length - i < fu → L.law8_DeadlineOperationsAddUp_L2_R p l fu (s + cnt p (l.take i)) i K
  | 0, i, _, h => by omega
  | fu + 1, i, hi, h => by
    show L.law8_DeadlineOperationsAddUp_L2_b p l (s + cnt p (l.take i)) i _ K
    unfold L.law8_DeadlineOperationsAddUp_L2_b
    have hfew := hm.few
    rcases Nat.lt_or_ge i l.length with g | g
    · refine cond_t (by simp; omega) ⟨⟨by omega, by omega⟩, ?_⟩
      rw [Int.toNat_natCast, i64_succ (i := i) (by omega)]
      have ih := sum_inner hm hs hK fu (i + 1) g (by omega)
      rw [take_snoc g, cnt_app] at ih
      have h1 := cnt_le p (l.take i)
      rw [List.length_take] at h1
      by_cases he : (l.getD i r0).2.1 = p
      · refine cond_t (beq_iff_eq.2 he) ?_
        rw [if_pos he] at ih
        rw [i64_id (by omega) (by omega), show s + ((cnt p (l.take i) : Nat) : Int) + 1 = s + ((cnt p (l.take i) + 1 : Nat) : Int) from by omega]
        exact ih
      · refine cond_f (beq_eq_false_iff_ne.2 he) ?_
        rw [if_neg he, Nat.add_zero] at ih
        exact ih
    · obtain rfl : i = l.length := by omega
      rw [List.take_length]
      exact cond_f (by simp) hK

theorem sum_inner0 {l : List Res} (hm : Mild l) {p : Nat} {s : Int} (hs : 0 ≤ s ∧ s ≤ 1000) {K : Int → Prop} (hK : K (s + cnt p l)) : L.law8_DeadlineOperationsAddUp_L2_R p l (l.length + 1) s 0 K := by
  have := sum_inner hm hs hK (l.length + 1) 0 (by omega) (by omega)
  rw [show cnt p (l.take 0) = 0 from rfl, show s + ((0 : Nat) : Int) = s from by omega] at this
  exact_mod_cast this

theorem sum_loop {caps : List Int} {sc : List (List Op)} (hv : Valid caps sc) {n N : Nat} (hnN : n ≤ N) (hn : n ≤ 60) {K0 : Prop} {Kr : Bool → Prop} (hK : K0) : ∀ (fu p : Nat), p ≤ sc.length → sc.length - p < fu →
    L.law8_DeadlineOperationsAddUp_L3_R sc (runN caps sc n).res (restT sc (runN caps sc n)) (ordA sc (runN caps sc N)) fu p K0 Kr
  | 0, p, _, h => by omega
  | fu + 1, p, hp, h => by
    show L.law8_DeadlineOperationsAddUp_L3_b sc (runN caps sc n).res (restT sc (runN caps sc n)) (ordA sc (runN caps sc N)) p _ K0 Kr
    unfold L.law8_DeadlineOperationsAddUp_L3_b
    have hns := hv.ns
    rcases Nat.lt_or_ge p sc.length with g | g
    · have hm := runN_mild hv (n := n) (by omega)
      have hok := (runN_ok hv n).1
      have htr := runN_tr hv n
      have htrN := runN_tr hv N
      have hrl : (restT sc (runN caps sc n)).length = sc.length := by simp [restT]
      have hrg : (restT sc (runN caps sc n)).getD p 0 = ((sc.getD p []).length : Int) - (runN caps sc n).next.getD p 0 := by
        rw [getD_get _ _ _ (by rw [hrl]; exact g)]
        simp [restT]
      have hb : inB (p : Int) (restT sc (runN caps sc n)).length := ⟨by omega, by omega⟩
      have hb2 : inB (p : Int) sc.length := ⟨by omega, by omega⟩
      have hnb := hok.nb p g
      have hl8 : (sc.getD p []).length ≤ 8 := hv.len _ (by rw [getD_get _ _ _ g]; exact List.getElem_mem g)
      have hnx := htr.nx p g
      refine cond_t (by simp; omega) ⟨hb, ⟨⟨(runN caps sc n).res.length + 1, ?_⟩⟩⟩
      rw [Int.toNat_natCast, hrg, i64_succ (by omega)]
      have ih := sum_loop hv hnN hn (Kr := Kr) hK fu (p + 1) g (by omega)
      refine sum_inner0 hm (p := p) (s := ((sc.getD p []).length : Int) - (runN caps sc n).next.getD p 0) (by omega) ?_
      have d1 : ((((sc.getD p []).length : Int) - (runN caps sc n).next.getD p 0 + ((cnt p (runN caps sc n).res : Nat) : Int)) != ((sc.getD p []).length : Int)) = false := by
        rw [bne_eq_false_iff_eq]; omega
      have d2 : decide ((((sc.getD p []).length : Int) - (runN caps sc n).next.getD p 0) < 0) = false := decide_eq_false (by omega)
      refine ⟨hb2, fun _ => hb, fun _ => hb, ?_⟩
      rw [d1, d2]
      refine cond_f rfl ?_
      by_cases h0 : ((sc.getD p []).length : Int) - (runN caps sc n).next.getD p 0 = 0
      · refine cond_t (beq_iff_eq.2 h0) ⟨⟨⟨(ordA sc (runN caps sc N)).length + 1, ?_⟩⟩⟩
        refine has_out (by have := ordA_len sc (runN caps sc N); omega) (fun hmem => ?_) ⟨cond_f rfl ih⟩ _ 0 (by omega) (by omega)
        have h1 := (ordA_mem.1 hmem).2
        rw [Int.toNat_natCast, htrN.nx p g] at h1
        obtain ⟨k, rfl⟩ : ∃ k, N = n + k := ⟨N - n, by omega⟩
        obtain ⟨ext, hx1, _⟩ := runN_pre caps sc hv n k
        rw [hx1] at h1
        have h2 : cnt p (runN caps sc n).res ≤ cnt p ((runN caps sc n).res ++ ext) := by
          unfold cnt
          rw [List.filter_append, List.length_append]
          omega
        omega
      · exact cond_f (beq_eq_false_iff_ne.2 h0) ⟨cond_f rfl ih⟩
    · exact cond_f (by simp; omega) hK

theorem sum_true {caps : List Int} {sc : List (List Op)} (hb : Bd sc) (ticks : Int) (K : Bool → Prop) (hK : K true) : L.law8_DeadlineOperationsAddUp caps sc ticks K := by
  refine ⟨run_ok hb (fun hv h0 h1 => stuck_ok hb (fun _ N hN _ => example_ok (cond_f rfl (cond_f rfl (cond_f ?_ ⟨⟨sc.length + 1, ?_⟩⟩)))) fun h => absurd hv h) fun _ c i hc => ?_⟩
  · simp [restT]
  · exact sum_loop hv (by omega) (by omega) hK (sc.length + 1) 0 (by omega) (by omega)
  · have fin : ∀ (c2 i2 : Int) (s : List Int), L.law8_deadlineExample (fun r7 => (bif (!r7) then K false else (bif (c != 0) then K true else (bif (bif (c2 != 0) then true else (((([] : List Int).length : Nat) : Int) != (sc.length : Int))) then K false else L.law8_DeadlineOperationsAddUp_L3 sc [] [] s 0 (K true) (fun r8 => K r8))))) :=
      fun c2 i2 s => example_ok (cond_f rfl (cond_t (bne_iff_ne.2 hc) hK))
    exact stuck_ok hb (fun _ N _ _ => fin 0 0 _) fun _ c2 i2 _ => fin c2 i2 _

end Dl
end Go.Proofs.Ytfkhdfmnhkndeaa

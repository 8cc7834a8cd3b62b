/-
  The rollout's example and Versions; RolloutVersionsFall, RolloutConfirmsBeforeNext and RolloutOneActiveRing as plain laws about the lifted functions. Conditions: none.
-/
import Derived.Test.YtgedmbndmdphdaaRoG
import Derived.Test.YtgedmbndmdphdaaLift3
namespace Go.Proofs.Ytgedmbndmdphdaa
open Eng
namespace Ro
open Can (okC okC_nat)

/-- What a ring runs. -/
def ver (r : Row) : Int := bif bif r.2.1 == 0 then decide ((r.1.length : Int) > 0) else false then r.1.getD (r.1.length - 1) 0 else r.2.1

theorem ver_loop {rows : List Row} (hl : rows.length ≤ 5) (hb : ∀ r, r ∈ rows → r.1.length ≤ 40) {K : List Int → Prop} (hK : K (rows.map ver)) : ∀ (fu i : Nat), i ≤ rows.length → rows.length - i < fu →
    L.rollout_Versions_L1_R rows.length rows fu i ((rows.take i).map ver) K
  | 0, i, _, h => by omega
  | fu + 1, i, hi, h => by
    show L.rollout_Versions_L1_b rows.length rows i _ _ K
    unfold L.rollout_Versions_L1_b
    rcases Nat.lt_or_ge i rows.length with g | g
    · refine cond_t (by simp; omega) ⟨⟨by omega, by omega⟩, ?_⟩
      rw [Int.toNat_natCast, getD_get _ _ _ g, i64_id (n := (i : Int) + 1) (by omega) (by omega)]
      have hbi := hb _ (List.getElem_mem g)
      have ih := ver_loop hl hb hK fu (i + 1) g (by omega)
      rw [List.take_add_one, List.map_append, List.getElem?_eq_getElem g] at ih
      have hf : ∀ x : Int, fits (((rows.take i).map ver).length + ([x] : List Int).length) := fun x => by
        simp only [fits, List.length_map, List.length_take, List.length_singleton]
        omega
      cases hc : (bif (rows[i]).2.1 == 0 then decide (((rows[i]).1.length : Int) > 0) else false) with
      | true =>
        have e : ver rows[i] = (rows[i]).1.getD ((rows[i]).1.length - 1) 0 := by unfold ver; rw [hc]; rfl
        have hpos : 0 < (rows[i]).1.length := by
          cases h0 : (rows[i]).2.1 == 0
          · rw [h0] at hc; cases hc
          · rw [h0] at hc; simpa using hc
        have en : (i64 (((rows[i]).1.length : Int) - 1)) = (((rows[i]).1.length - 1 : Nat) : Int) := by
          rw [i64_id (by omega) (by omega)]; omega
        rw [en, Int.toNat_natCast]
        refine cond_t rfl ⟨⟨by omega, by omega⟩, hf _, ?_⟩
        rw [← e]
        exact_mod_cast ih
      | false =>
        have e : ver rows[i] = (rows[i]).2.1 := by unfold ver; rw [hc]; rfl
        refine cond_f rfl ⟨hf _, ?_⟩
        rw [← e]
        exact_mod_cast ih
    · obtain rfl : i = rows.length := by omega
      rw [List.take_length]
      exact cond_f (by simp) hK

theorem versions_ok {n : Int} {P : Par} {es : List Ev} {K : List Int → Int → Int → Prop} (hK : K ((run n P es).2.2.map ver) (run n P es).1 (run n P es).2.1) : L.rollout_Versions n P.g P.b P.need P.mille es K := by
  refine ⟨run_ok ?_⟩
  by_cases h : (run n P es).1 = 0
  · obtain ⟨r1, r2, r3, r4, r5, r6, r7⟩ := run_good h
    rw [h, r1] at hK ⊢
    refine cond_f rfl ⟨⟨(run n P es).2.2.length + 1, ?_⟩⟩
    have := ver_loop (rows := (run n P es).2.2) (by omega) (fun r hr => (r4 r hr).1) (K := fun o => K o 0 0) hK ((run n P es).2.2.length + 1) 0 (by omega) (by omega)
    exact_mod_cast this
  · rw [run_bad h] at hK
    refine cond_t ?_ hK
    simp [beq_eq_false_iff_ne.2 h]

theorem eqi_loop {xs : List Int} (hb : xs.length < 100) {K : Bool → Prop} (hK : K true) : ∀ (fu i : Nat), i ≤ xs.length → xs.length - i < fu → L.ref8_EqualInts_L1_R xs xs fu i (K true) K
  | 0, i, _, h => by omega
  | fu + 1, i, hi, h => by
    show L.ref8_EqualInts_L1_b xs xs i _ _ K
    unfold L.ref8_EqualInts_L1_b
    rcases Nat.lt_or_ge i xs.length with g | g
    · refine cond_t (by simp; omega) ⟨⟨by omega, by omega⟩, ⟨by omega, by omega⟩, cond_f (by simp) ?_⟩
      rw [i64_id (by omega) (by omega)]
      exact_mod_cast eqi_loop hb hK fu (i + 1) g (by omega)
    · exact cond_f (by simp; omega) hK

theorem eqi_ok {xs : List Int} (hb : xs.length < 100) {K : Bool → Prop} (hK : K true) : L.ref8_EqualInts xs xs K :=
  ⟨cond_f (by simp) ⟨⟨xs.length + 1, by exact_mod_cast eqi_loop hb hK (xs.length + 1) 0 (by omega) (by omega)⟩⟩⟩

theorem eqr_loop {a : List Row} (hal : a.length < 100) (hb : ∀ r, r ∈ a → r.1.length < 100) {K : Bool → Prop} (hK : K true) : ∀ (fu i : Nat), i ≤ a.length → a.length - i < fu → L.ref8_EqualRings_L1_R a a fu i (K true) K
  | 0, i, _, h => by omega
  | fu + 1, i, hi, h => by
    show L.ref8_EqualRings_L1_b a a i _ _ K
    unfold L.ref8_EqualRings_L1_b
    rcases Nat.lt_or_ge i a.length with g | g
    · have hin : inB (i : Int) a.length := ⟨by omega, by omega⟩
      refine cond_t (by simp; omega) ⟨hin, hin, ?_⟩
      rw [Int.toNat_natCast, getD_get _ _ _ g]
      refine eqi_ok (hb _ (List.getElem_mem g)) ⟨fun _ => hin, fun _ => hin, fun _ => hin, fun _ => hin, cond_f (by simp) ?_⟩
      rw [i64_id (by omega) (by omega)]
      exact_mod_cast eqr_loop hal hb hK fu (i + 1) g (by omega)
    · exact cond_f (by simp; omega) hK

theorem eqr_ok {a : List Row} (hal : a.length < 100) (hb : ∀ r, r ∈ a → r.1.length < 100) {K : Bool → Prop} (hK : K true) : L.ref8_EqualRings a a K :=
  ⟨cond_f (by simp) ⟨⟨a.length + 1, by exact_mod_cast eqr_loop hal hb hK (a.length + 1) 0 (by omega) (by omega)⟩⟩⟩

theorem example_run : run 2 ⟨0, 0, 0, 50⟩ [(1, (7, (0, (0, 0)))), (3, (0, (0, (0, 0))))] = (0, (0, [([7], (0, (0, 0))), ([], (7, (0, 0)))])) := by decide

theorem example_ok {K : Bool → Prop} (hK : K true) : L.law8_rolloutExample K := by
  refine ⟨run_ok (P := ⟨0, 0, 0, 50⟩) ?_⟩
  rw [example_run]
  refine versions_ok (P := ⟨0, 0, 0, 50⟩) ?_
  rw [example_run]
  refine cond_t rfl (eqr_ok (by decide) (by decide) (cond_t rfl (eqi_ok (xs := [7, 7]) (by decide) hK)))

/-- Versions fall. -/
theorem ver_falls {P : Par} {a : List Row} (h : Good P a) {i : Nat} (hi : i + 1 < a.length) : ver (List.getD a (i + 1) ([], (0, (0, 0)))) ≤ ver (List.getD a i ([], (0, (0, 0)))) := by
  have h1 := h.row i (by omega)
  have h2 := h.row (i + 1) hi
  have h3 := h.adj i hi
  generalize (List.getD a i ([], (0, (0, 0)))) = r at h1 h3 ⊢
  generalize (List.getD a (i + 1) ([], (0, (0, 0)))) = r' at h2 h3 ⊢
  -- all that is confirmed in the ring is no later than what it runs
  have up : ∀ x, x ∈ r.1 → x ≤ ver r := by
    intro x hx
    have hp : 0 < r.1.length := List.length_pos_of_mem hx
    unfold ver
    by_cases h0 : r.2.1 = 0
    · have e : (bif r.2.1 == 0 then decide ((r.1.length : Int) > 0) else false) = true := by rw [beq_iff_eq.2 h0]; simp; omega
      rw [e]
      exact inc_last h1.inc x hx
    · have e : (bif r.2.1 == 0 then decide ((r.1.length : Int) > 0) else false) = false := by rw [beq_eq_false_iff_ne.2 h0]; rfl
      rw [e]
      exact Int.le_of_lt ((h1.top h0).2 x hx)
  have nn : 0 ≤ ver r := by
    unfold ver
    by_cases h0 : r.2.1 = 0
    · cases e : (bif r.2.1 == 0 then decide ((r.1.length : Int) > 0) else false) with
      | true =>
        have hp : 0 < r.1.length := by
          rw [beq_iff_eq.2 h0] at e; simpa using e
        rw [cond_true, getD_get _ _ _ (by omega)]
        exact Int.le_of_lt (h1.pos _ (List.getElem_mem _))
      | false => rw [cond_false]; omega
    · have e : (bif r.2.1 == 0 then decide ((r.1.length : Int) > 0) else false) = false := by rw [beq_eq_false_iff_ne.2 h0]; rfl
      rw [e, cond_false]
      have := (h1.top h0).1
      omega
  by_cases h0 : r'.2.1 = 0
  · cases e : (bif r'.2.1 == 0 then decide ((r'.1.length : Int) > 0) else false) with
    | true =>
      have hp : 0 < r'.1.length := by
        rw [beq_iff_eq.2 h0] at e; simpa using e
      have : ver r' = r'.1.getD (r'.1.length - 1) 0 := by unfold ver; rw [e]; rfl
      rw [this, getD_get _ _ _ (by omega)]
      exact up _ (h3.sub _ (List.getElem_mem _))
    | false =>
      have : ver r' = r'.2.1 := by unfold ver; rw [e]; rfl
      rw [this, h0]
      exact nn
  · have : ver r' = r'.2.1 := by unfold ver; rw [beq_eq_false_iff_ne.2 h0]; rfl
    rw [this]
    exact up _ (h3.act h0)

theorem falls_loop {P : Par} {a : List Row} (hg : Good P a) (hal : a.length ≤ 5) {K0 : Prop} {Kr : Bool → Prop} (hK : K0) : ∀ (fu i : Nat), i ≤ a.length → a.length - i < fu → L.law8_RolloutVersionsFall_L1_R (a.map ver) 0 fu (i + 1 : Int) K0 Kr
  | 0, i, _, h => by omega
  | fu + 1, i, hi, h => by
    show L.law8_RolloutVersionsFall_L1_b (a.map ver) 0 (i + 1) _ _ Kr
    unfold L.law8_RolloutVersionsFall_L1_b
    rcases Nat.lt_or_ge (i + 1) a.length with g | g
    · refine cond_t (by simp; omega) ?_
      rw [i64_id (n := (i : Int) + 1 - 1) (by omega) (by omega), show (i : Int) + 1 - 1 = i from by omega, i64_id (n := (i : Int) + 1 + 1) (by omega) (by omega), List.length_map, Int.toNat_natCast, show ((i : Int) + 1).toNat = i + 1 from by omega]
      refine ⟨⟨by omega, by omega⟩, ⟨by omega, by omega⟩, cond_f (decide_eq_false ?_) ?_⟩
      · rw [getD_map _ _ _ ([], (0, (0, 0))) _ (by omega), getD_map _ _ _ ([], (0, (0, 0))) _ g]
        have := ver_falls hg g
        omega
      · exact_mod_cast falls_loop hg hal hK fu (i + 1) (by omega) (by omega)
    · exact cond_f (by simp; omega) hK

theorem falls_true (n : Int) (P : Par) (es : List Ev) (K : Bool → Prop) (hK : K true) : L.law8_RolloutVersionsFall n P.g P.b P.need P.mille es K := by
  refine ⟨versions_ok (example_ok (cond_f rfl ?_))⟩
  by_cases h : (run n P es).1 = 0
  · obtain ⟨r1, r2, r3, r4, r5, r6, r7⟩ := run_good h
    rw [h]
    refine ⟨⟨(run n P es).2.2.length + 1, ?_⟩⟩
    have := falls_loop r3 (by omega) (K0 := K (bif ((0 : Int) != 0) then true else ((((run n P es).2.2.map ver).length : Int) == n))) (Kr := K) (by
      have e : ((((run n P es).2.2.map ver).length : Int) == n) = true := by rw [beq_iff_eq, List.length_map, r5]; omega
      rw [e]
      exact hK) ((run n P es).2.2.length + 1) 0 (by omega) (by omega)
    exact_mod_cast this
  · refine ⟨⟨1, cond_f ?_ ?_⟩⟩
    · rw [beq_eq_false_iff_ne.2 h]; rfl
    · rw [show ((run n P es).1 != 0) = true from bne_iff_ne.2 h]
      exact hK

/-- Versions that are active are later the nearer the ring. -/
theorem act_sub {P : Par} {a : List Row} (h : Good P a) {i : Nat} : ∀ (d : Nat), i + d + 1 < a.length → (List.getD a (i + d + 1) ([], (0, (0, 0)))).2.1 ≠ 0 → (List.getD a (i + d + 1) ([], (0, (0, 0)))).2.1 ∈ (List.getD a i ([], (0, (0, 0)))).1 := by
  intro d hd h0
  have h1 := (h.adj (i + d) hd).act h0
  clear h0
  revert h1
  generalize (List.getD a (i + d + 1) ([], (0, (0, 0)))).2.1 = v
  intro h1
  induction d with
  | zero => exact h1
  | succ d ih => exact ih (by omega) ((h.adj (i + d) (by omega)).sub v h1)

theorem one_inner {P : Par} {a : List Row} (hg : Good P a) (hal : a.length ≤ 5) {i : Nat} (hi : i < a.length) (h0 : (List.getD a i ([], (0, (0, 0)))).2.1 ≠ 0) {K0 : Prop} {Kr : Bool → Prop} (hK : K0) : ∀ (fu k : Nat), k ≤ i → i - k < fu → L.law8_RolloutOneActiveRing_L1_R i a fu k K0 Kr
  | 0, k, _, h => by omega
  | fu + 1, k, hk, h => by
    show L.law8_RolloutOneActiveRing_L1_b i a k _ _ Kr
    unfold L.law8_RolloutOneActiveRing_L1_b
    rcases Nat.lt_or_ge k i with g | g
    · refine cond_t (by simp; omega) ⟨⟨by omega, by omega⟩, ⟨by omega, by omega⟩, cond_f (beq_eq_false_iff_ne.2 fun e => ?_) ?_⟩
      · rw [Int.toNat_natCast, Int.toNat_natCast] at e
        have hs := act_sub hg (i := k) (i - k - 1) (by omega)
        rw [show k + (i - k - 1) + 1 = i from by omega] at hs
        have := ((hg.row k (by omega)).top (by rw [e]; exact h0)).2 _ (hs h0)
        omega
      · rw [i64_id (by omega) (by omega)]
        exact_mod_cast one_inner hg hal hi h0 hK fu (k + 1) g (by omega)
    · exact cond_f (by simp; omega) hK

theorem one_loop {P : Par} (hP : P.ok) {a : List Row} (hg : Good P a) (hT : Small 40 a) (hal : a.length ≤ 5) {K0 : Prop} {Kr : Bool → Prop} (hK : K0) : ∀ (fu i : Nat), i ≤ a.length → a.length - i < fu → L.law8_RolloutOneActiveRing_L2_R P.need P.mille P.g P.b a 0 fu i K0 Kr
  | 0, i, _, h => by omega
  | fu + 1, i, hi, h => by
    show L.law8_RolloutOneActiveRing_L2_b P.need P.mille P.g P.b a 0 i _ _ Kr
    unfold L.law8_RolloutOneActiveRing_L2_b
    rcases Nat.lt_or_ge i a.length with g | g
    · have hin : inB (i : Int) a.length := ⟨by omega, by omega⟩
      refine cond_t (by simp; omega) ⟨hin, ?_⟩
      rw [i64_id (by omega) (by omega), Int.toNat_natCast]
      have ih := one_loop hP hg hT hal hK (Kr := Kr) fu (i + 1) g (by omega)
      rw [show ((i + 1 : Nat) : Int) = (i : Int) + 1 from by omega] at ih
      by_cases h0 : (List.getD a i ([], (0, (0, 0)))).2.1 = 0
      · exact cond_t (beq_iff_eq.2 h0) ih
      · refine cond_f (beq_eq_false_iff_ne.2 h0) ⟨hin, ?_⟩
        obtain ⟨pg, pb, n, m⟩ := P
        have hv := (hg.row i g).ver h0
        obtain ⟨q1, q2, q3, q4, q5⟩ := hP
        simp only at q1 q2 q3 q4 q5
        obtain ⟨g1, b1, rfl, rfl, hs1⟩ := okC_nat q1
        obtain ⟨g2, b2, e1, e2, hs2⟩ := okC_nat (hT.at g).2
        unfold vd at hv
        rw [e1, e2] at hv ⊢
        simp only [Int.toNat_natCast] at hv
        refine Can.Verdict_ok g1 b1 g2 b2 n m hs1 hs2 q4 q5 (cond_f (beq_eq_false_iff_ne.2 hv) ⟨⟨i + 1, ?_⟩⟩)
        exact_mod_cast one_inner hg hal g h0 ih (i + 1) 0 (by omega) (by omega)
    · exact cond_f (by simp; omega) hK

theorem one_true (n : Int) (P : Par) (es : List Ev) (K : Bool → Prop) (hK : K true) : L.law8_RolloutOneActiveRing n P.g P.b P.need P.mille es K := by
  refine ⟨run_ok (example_ok (cond_f rfl ?_))⟩
  by_cases h : (run n P es).1 = 0
  · obtain ⟨r1, r2, r3, r4, r5, r6, r7⟩ := run_good h
    rw [h]
    refine ⟨⟨(run n P es).2.2.length + 1, ?_⟩⟩
    exact_mod_cast one_loop r2 r3 r4 (by omega) (K0 := K true) (Kr := K) hK ((run n P es).2.2.length + 1) 0 (by omega) (by omega)
  · refine ⟨⟨1, cond_f ?_ hK⟩⟩
    rw [beq_eq_false_iff_ne.2 h]; rfl

end Ro

theorem RolloutVersionsFall_true (xs : ArgDen [(false, (.int .i64)), (true, (.pair (.int .i64) (.int .i64))), (false, (.int .i64)), (false, (.int .i64)), (false, (.slice (.pair (.int .i64) (.pair (.int .i64) (.pair (.int .i64) (.pair (.int .i64) (.int .i64)))))))]) (_ : WfAll _ xs) (K : Bool → Prop) (hK : K true) : L.law8_RolloutVersionsFall xs.1 xs.2.1.1 xs.2.1.2 xs.2.2.1 xs.2.2.2.1 xs.2.2.2.2.1 K :=
  Ro.falls_true xs.1 ⟨xs.2.1.1, xs.2.1.2, xs.2.2.1, xs.2.2.2.1⟩ xs.2.2.2.2.1 K hK

theorem RolloutOneActiveRing_true (xs : ArgDen [(false, (.int .i64)), (true, (.pair (.int .i64) (.int .i64))), (false, (.int .i64)), (false, (.int .i64)), (false, (.slice (.pair (.int .i64) (.pair (.int .i64) (.pair (.int .i64) (.pair (.int .i64) (.int .i64)))))))]) (_ : WfAll _ xs) (K : Bool → Prop) (hK : K true) : L.law8_RolloutOneActiveRing xs.1 xs.2.1.1 xs.2.1.2 xs.2.2.1 xs.2.2.2.1 xs.2.2.2.2.1 K :=
  Ro.one_true xs.1 ⟨xs.2.1.1, xs.2.1.2, xs.2.2.1, xs.2.2.2.1⟩ xs.2.2.2.2.1 K hK

end Go.Proofs.Ytgedmbndmdphdaa

/-
  The first law of calendar. Conditions: none.
-/
import Derived.Test.YtmnalcfclcgmkaaCaS
set_option linter.unusedVariables false
set_option maxRecDepth 100000
namespace Go.Proofs.Ytmnalcfclcgmkaa
open Eng
namespace Ca

theorem pair_eq (a b : Int) : ((a == a) && ((b == b) && true)) = true := by simp

theorem j5_ok (ws : List Win) (hs : List Int) (hG : Good ws hs) (t m r c i : Int) (t0 : 0 ≤ t) (t1 : t ≤ 10000000) (K : Bool → Prop) (hK : K true)
    (h : ((m < 0 ∨ m > 500000) ∧ r = 0 ∧ c = 3 ∧ i = -21) ∨ (0 ≤ m ∧ m ≤ 500000 ∧ ((m = 0 ∧ r = t ∧ c = 0 ∧ i = 0) ∨ (0 < m ∧ c = 0 ∧ i = 0 ∧ t < r ∧ r ≤ t + 500000 ∧ cnt (op ws hs) r = cnt (op ws hs) t + m ∧ op ws hs (r - 1) = true) ∨
      (0 < m ∧ r = 0 ∧ c = 6 ∧ i = -22 ∧ cnt (op ws hs) (t + 500000) < cnt (op ws hs) t + m)))) : L.law8_CalendarFunctionsMatchSpec_J5 t m r ws hs c i K := by
  constructor
  unfold L.law8_CalendarFunctionsMatchSpec_J5_B
  have b := cnt_mono (op ws hs) (Int.le_refl 0) t0
  rw [cnt_zero] at b
  rcases h with ⟨h, rfl, rfl, rfl⟩ | ⟨m0, m1, h⟩
  · refine cond_t (by rw [bor]; simpa using h) (fault_k ?_)
    exact hK
  · refine cond_f (by rw [bor]; simp; omega) (minutes_ok ws hs hG t t0 (by omega) _ ?_)
    rw [i64_id (n := cnt (op ws hs) t + m) (by omega) (by omega)]
    refine reach_ok ws hs hG t _ 500000 t0 t1 (by omega) (by omega) _ (fun q hq => ?_)
    have mono : ∀ x y, 0 ≤ x → x ≤ y → cnt (op ws hs) x ≤ cnt (op ws hs) y := fun x y h1 h2 => (cnt_mono (op ws hs) h1 h2).1
    rcases hq with ⟨rfl, hq⟩ | ⟨q1, q2, q3, q4⟩
    · refine cond_t rfl (fault_k ?_)
      rcases h with ⟨rfl, _⟩ | ⟨_, _, _, g1, g2, g3, _⟩ | ⟨_, rfl, rfl, rfl, _⟩
      · have := mono t (t + 500000) t0 (by omega); omega
      · have := mono r (t + 500000) (by omega) g2; omega
      · exact hK
    · refine cond_f (by simp; omega) ?_
      have key : c = 0 ∧ r = q := by
        rcases h with ⟨rfl, rfl, rfl, _⟩ | ⟨m2, rfl, _, g1, g2, g3, g4⟩ | ⟨_, _, _, _, h⟩
        · refine ⟨rfl, ?_⟩
          rcases q4 with q4 | q4
          · exact q4.symm
          · by_cases hq : q = r
            · exact hq.symm
            · have := mono r (q - 1) t0 (by omega); omega
        · refine ⟨rfl, ?_⟩
          rcases Int.lt_trichotomy q r with hlt | heq | hgt
          · have e := cnt_succ (op ws hs) (t := r - 1) (by omega)
            rw [show r - 1 + 1 = r by omega, g4, if_pos rfl] at e
            have := mono q (r - 1) (by omega) (by omega)
            omega
          · exact heq.symm
          · have := mono r (q - 1) (by omega) (by omega)
            omega
        · have := mono q (t + 500000) (by omega) q2; omega
      obtain ⟨rfl, rfl⟩ := key
      show K (bif ((0 : Int) == 0) then (r == r) else false)
      simp only [beq_self_eq_true, cond_true]
      exact hK

theorem j7_ok {Kn : Prop} {Kr : Bool → Prop} {b : Bool} (hb : b = false) (h : Kn) : L.law8_CalendarFunctionsMatchSpec_J7 b Kn Kr := by
  subst hb
  exact ⟨h⟩

theorem j6_ok {Kn : Prop} {Kr : Bool → Prop} {b : Bool} (hb : b = false) (h : Kn) : L.law8_CalendarFunctionsMatchSpec_J6 b Kn Kr := by
  subst hb
  exact ⟨h⟩

theorem j8_ok {Kn : Prop} {Kr : Bool → Prop} {b : Bool} (hb : b = false) (h : Kn) : L.law8_CalendarFunctionsMatchSpec_J8 b Kn Kr := by
  subst hb
  exact ⟨h⟩

theorem time_ok {c i t : Int} {K : Int → Int → Prop} (h : K (bif c == 0 && tbad t then 3 else c) (bif c == 0 && tbad t then -20 else i)) : L.law8_timeFault c i t K := by
  constructor
  unfold L.law8_timeFault_B
  rw [bor, band]
  show bif c == 0 && tbad t then _ else _
  cases hb : c == 0 && tbad t with
  | true => rw [hb] at h; exact fault_k h
  | false => rw [hb] at h; exact h

/-- What check answers, step by step. -/
theorem chk_one {ws : List Win} {hs : List Int} (hv : vld ws hs = (0, 0)) (t : Int) : chk ws hs [t] = bif tbad t then (3, -20) else (0, 0) := by
  unfold chk
  rw [hv]
  simp only [List.any_cons, List.any_nil, Bool.or_false]
  rfl

theorem chk_two {ws : List Win} {hs : List Int} (hv : vld ws hs = (0, 0)) (s t : Int) : chk ws hs [s, t] = bif tbad s || tbad t then (3, -20) else (0, 0) := by
  unfold chk
  rw [hv]
  simp only [List.any_cons, List.any_nil, Bool.or_false]
  rfl

theorem chk_bad {ws : List Win} {hs : List Int} (hv : (vld ws hs).1 ≠ 0) (ts : List Int) : chk ws hs ts = vld ws hs := by
  unfold chk
  rw [ne_pair hv]
  rfl

theorem first_true (ws : List Win) (hs : List Int) (t u m : Int) (K : Bool → Prop) (hK : K true) : L.law8_CalendarFunctionsMatchSpec ws hs t u m K := by
  constructor
  unfold L.law8_CalendarFunctionsMatchSpec_B
  obtain ⟨⟨vc, vi⟩, hv⟩ : ∃ p, vld ws hs = p := ⟨_, rfl⟩
  obtain ⟨r1, c1, i1, e1, h1⟩ := open_cases ws hs t
  obtain ⟨r2, c2, i2, e2, h2⟩ := next_cases ws hs t
  obtain ⟨r3, c3, i3, e3, h3⟩ := worked_cases ws hs t u
  obtain ⟨r4, c4, i4, e4, h4⟩ := add_cases ws hs t m
  refine ref_at hv (open_at e1 (next_at e2 (worked_at e3 (add_at e4 (example_ok (cond_t rfl (vld_at hv (j8_ok (by simp) ?_))))))))
  constructor
  unfold L.law8_CalendarFunctionsMatchSpec_J1_B
  refine time_ok ?_
  -- a fault of the calendar or of the time
  have bad : ∀ c i : Int, c ≠ 0 → chk ws hs [t] = (c, i) → chk ws hs [t, u] = (c, i) → K (bif (bif (bif (bif (bif (bif (bif ((c1 == c) && ((i1 == i) && true)) then ((c2 == c) && ((i2 == i) && true)) else false) then ((c3 == c) && ((i3 == i) && true)) else false) then ((c4 == c) && ((i4 == i) && true)) else false) then (!r1) else false) then (r2 == 0) else false) then (r3 == 0) else false) then (r4 == 0) else false) := by
    intro c i hc k1 k2
    have g1 : r1 = false ∧ c1 = c ∧ i1 = i := by
      unfold openR at e1
      rw [k1, ne_pair (p := (c, i)) hc] at e1
      simp only [cond_false, Prod.mk.injEq] at e1
      exact ⟨e1.1.symm, e1.2.1.symm, e1.2.2.symm⟩
    have g2 : r2 = 0 ∧ c2 = c ∧ i2 = i := by
      unfold nextR at e2
      rw [k1, ne_pair (p := (c, i)) hc] at e2
      simp only [cond_false, Prod.mk.injEq] at e2
      exact ⟨e2.1.symm, e2.2.1.symm, e2.2.2.symm⟩
    have g3 : r3 = 0 ∧ c3 = c ∧ i3 = i := by
      unfold workedR at e3
      rw [k2, ne_pair (p := (c, i)) hc] at e3
      simp only [cond_false, Prod.mk.injEq] at e3
      exact ⟨e3.1.symm, e3.2.1.symm, e3.2.2.symm⟩
    have g4 : r4 = 0 ∧ c4 = c ∧ i4 = i := by
      unfold addR at e4
      rw [k1, ne_pair (p := (c, i)) hc] at e4
      simp only [cond_false, Prod.mk.injEq] at e4
      exact ⟨e4.1.symm, e4.2.1.symm, e4.2.2.symm⟩
    obtain ⟨rfl, rfl, rfl⟩ := g1
    obtain ⟨rfl, rfl, rfl⟩ := g2
    obtain ⟨rfl, rfl, rfl⟩ := g3
    obtain ⟨rfl, rfl, rfl⟩ := g4
    simp only [beq_self_eq_true, Bool.and_true, cond_true, Bool.not_false]
    exact hK
  by_cases hvc : vc = 0
  · -- the calendar is valid
    obtain ⟨w1, w2⟩ := vld_code ws hs
    rw [hv] at w1 w2
    obtain rfl : vi = 0 := by
      have := w1 hvc
      simp only [Prod.mk.injEq] at this
      exact this.2
    subst hvc
    have hG := w2 rfl
    have k1 := chk_one hv t
    have k2 := chk_two hv t u
    cases hb : tbad t with
    | true =>
      rw [hb] at k1 k2
      exact bad 3 (-20) (by decide) k1 k2
    | false =>
      rw [hb] at k1 k2
      have ht : 0 ≤ t ∧ t ≤ 10000000 := by unfold tbad at hb; simp at hb; omega
      obtain ⟨t0, t1⟩ := ht
      have b := cnt_mono (op ws hs) (Int.le_refl 0) t0
      rw [cnt_zero] at b
      have mono : ∀ x y, 0 ≤ x → x ≤ y → cnt (op ws hs) x ≤ cnt (op ws hs) y := fun x y h1 h2 => (cnt_mono (op ws hs) h1 h2).1
      simp only [beq_self_eq_true, Bool.and_false, cond_false]
      refine cond_f rfl ?_
      have g1 : c1 = 0 ∧ r1 = op ws hs t := by
        unfold openR at e1
        rw [k1] at e1
        simp only [cond_false, beq_self_eq_true, cond_true, Prod.mk.injEq] at e1
        exact ⟨e1.2.1.symm, e1.1.symm⟩
      obtain ⟨rfl, rfl⟩ := g1
      refine cond_f rfl (isopen_ok ws hs hG t t0 t1 _ (j7_ok (by simp) ?_))
      constructor
      unfold L.law8_CalendarFunctionsMatchSpec_J2_B
      refine minutes_ok ws hs hG t t0 (by omega) _ ?_
      rw [i64_id (n := cnt (op ws hs) t + 1) (by omega) (by omega)]
      -- behind Next
      have rest : L.law8_CalendarFunctionsMatchSpec_J3 t u m r3 r4 ws hs 0 0 c3 i3 c4 i4 K := by
        constructor
        unfold L.law8_CalendarFunctionsMatchSpec_J3_B
        have j5 : L.law8_CalendarFunctionsMatchSpec_J5 t m r4 ws hs c4 i4 K := by
          refine j5_ok ws hs hG t m r4 c4 i4 t0 t1 K hK ?_
          rcases h4 with ⟨h, _⟩ | ⟨_, _, _, _, h⟩
          · rw [k1] at h; exact absurd rfl h
          · exact h
        have j4 : ∀ c i : Int, ((c ≠ 0 ∧ c3 = c ∧ i3 = i ∧ r3 = 0) ∨ (c = 0 ∧ c3 = 0 ∧ 0 ≤ u ∧ u ≤ 10000000 ∧ r3 = cnt (op ws hs) u - cnt (op ws hs) t)) → L.law8_CalendarFunctionsMatchSpec_J4 t u m r3 r4 ws hs c3 i3 c4 i4 c i K := by
          rintro c i (⟨hc, rfl, rfl, rfl⟩ | ⟨rfl, rfl, u0, u1, rfl⟩)
          · constructor
            unfold L.law8_CalendarFunctionsMatchSpec_J4_B
            refine cond_t (by simpa using hc) (cond_f (by simp) j5)
          · constructor
            unfold L.law8_CalendarFunctionsMatchSpec_J4_B
            refine cond_f rfl (cond_t rfl (minutes_ok ws hs hG u u0 (by omega) _ (minutes_ok ws hs hG t t0 (by omega) _ (j6_ok ?_ j5))))
            have b2 := cnt_mono (op ws hs) (Int.le_refl 0) u0
            rw [cnt_zero] at b2
            rw [i64_id (by omega) (by omega)]
            simp
        refine time_ok ?_
        cases hbu : tbad u with
        | true =>
          rw [hbu] at k2
          simp only [beq_self_eq_true, Bool.and_true, cond_true]
          refine cond_f rfl (j4 3 (-20) (.inl ⟨by decide, ?_⟩))
          unfold workedR at e3
          rw [k2, ne_pair (p := ((bif false || true then ((3 : Int), (-20 : Int)) else (0, 0)))) (by decide)] at e3
          simp only [cond_false, Bool.false_or, cond_true, Prod.mk.injEq] at e3
          exact ⟨e3.2.1.symm, e3.2.2.symm, e3.1.symm⟩
        | false =>
          rw [hbu] at k2
          simp only [beq_self_eq_true, Bool.and_false, cond_false]
          have hu2 : 0 ≤ u ∧ u ≤ 10000000 := by unfold tbad at hbu; simp at hbu; omega
          obtain ⟨u0, u1⟩ := hu2
          rcases h3 with ⟨h, _⟩ | ⟨_, _, _, _, _, _, h⟩
          · rw [k2] at h; exact absurd rfl h
          rw [i64_id (n := u - t) (by omega) (by omega)]
          rcases h with ⟨h, rfl, rfl, rfl⟩ | ⟨b1, b2, rfl, rfl, rfl⟩
          · refine cond_t ?_ (fault_k (j4 3 (-21) (.inl ⟨by decide, rfl, rfl, rfl⟩)))
            rw [bor]
            simp
            omega
          · refine cond_f ?_ (j4 0 0 (.inr ⟨rfl, rfl, u0, u1, rfl⟩))
            rw [bor]
            simp
            omega
      refine reach_ok ws hs hG t _ 500001 t0 t1 (by omega) (by omega) _ (fun q hq => ?_)
      rcases h2 with ⟨h, _⟩ | ⟨_, _, _, _, h⟩
      · rw [k1] at h; exact absurd rfl h
      rcases hq with ⟨rfl, hq⟩ | ⟨q1, q2, q3, q4⟩
      · refine cond_t rfl (fault_k ?_)
        rcases h with ⟨rfl, rfl, g1, g2, g3, g4⟩ | ⟨rfl, rfl, rfl, g4⟩
        · have e := cnt_succ (op ws hs) (t := r2) (by omega)
          rw [g3, if_pos rfl] at e
          have := mono (r2 + 1) (t + 500001) (by omega) (by omega)
          omega
        · exact cond_f (by simp) rest
      · refine cond_f (by simp; omega) ?_
        rcases h with ⟨rfl, rfl, g1, g2, g3, g4⟩ | ⟨rfl, rfl, rfl, g4⟩
        · have e := cnt_succ (op ws hs) (t := r2) (by omega)
          rw [g3, if_pos rfl] at e
          have hq : r2 = q - 1 := by
            rcases Int.lt_trichotomy r2 (q - 1) with hlt | heq | hgt
            · have := mono (r2 + 1) (q - 1) (by omega) (by omega)
              omega
            · exact heq
            · have := mono q r2 (by omega) (by omega)
              omega
          rw [i64_id (n := q - 1) (by omega) (by omega)]
          refine cond_f ?_ rest
          rw [hq]
          simp
        · have := mono q (t + 500001) (by omega) q2
          omega
  · have e : (bif vc == 0 && tbad t then 3 else vc) = vc ∧ (bif vc == 0 && tbad t then -20 else vi) = vi := by
      rw [show (vc == 0) = false by simpa using hvc]
      exact ⟨rfl, rfl⟩
    rw [e.1, e.2]
    refine cond_t (by simpa using hvc) ?_
    have hne : (vld ws hs).1 ≠ 0 := by rw [hv]; exact hvc
    exact bad vc vi hvc ((chk_bad hne _).trans hv) ((chk_bad hne _).trans hv)

end Ca
theorem CalendarFunctionsMatchSpec_true (xs : ArgDen [(true, (.pair (.slice (.pair (.int .i64) (.pair (.int .i64) (.int .i64)))) (.slice (.int .i64)))), (false, .int .i64), (false, .int .i64), (false, .int .i64)]) (hw : WfAll _ xs) (K : Bool → Prop) (hK : K true) : L.law8_CalendarFunctionsMatchSpec xs.1.1 xs.1.2 xs.2.1 xs.2.2.1 xs.2.2.2.1 K :=
  Ca.first_true _ _ _ _ _ K hK
end Go.Proofs.Ytmnalcfclcgmkaa

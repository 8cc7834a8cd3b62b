/-
  The laws of calendar but the first. Conditions: none.
-/
import Derived.Test.YtmnalcfclcgmkaaLift
import Derived.Test.YtmnalcfclcgmkaaEngV
set_option linter.unusedVariables false
set_option maxRecDepth 100000
namespace Go.Proofs.Ytmnalcfclcgmkaa
open Eng
namespace Ca

theorem open_at {ws : List Win} {hs : List Int} {t : Int} {a : Bool} {c i : Int} (e : openR ws hs t = (a, (c, i))) {K : Bool → Int → Int → Prop} (h : K a c i) : L.calendar_Open ws hs t K := by
  constructor
  show K (openR ws hs t).1 (openR ws hs t).2.1 (openR ws hs t).2.2
  rw [e]
  exact h

theorem next_at {ws : List Win} {hs : List Int} {t : Int} {a : Int} {c i : Int} (e : nextR ws hs t = (a, (c, i))) {K : Int → Int → Int → Prop} (h : K a c i) : L.calendar_Next ws hs t K := by
  constructor
  show K (nextR ws hs t).1 (nextR ws hs t).2.1 (nextR ws hs t).2.2
  rw [e]
  exact h

theorem worked_at {ws : List Win} {hs : List Int} {s t : Int} {a : Int} {c i : Int} (e : workedR ws hs s t = (a, (c, i))) {K : Int → Int → Int → Prop} (h : K a c i) : L.calendar_Worked ws hs s t K := by
  constructor
  show K (workedR ws hs s t).1 (workedR ws hs s t).2.1 (workedR ws hs s t).2.2
  rw [e]
  exact h

theorem add_at {ws : List Win} {hs : List Int} {s t : Int} {a : Int} {c i : Int} (e : addR ws hs s t = (a, (c, i))) {K : Int → Int → Int → Prop} (h : K a c i) : L.calendar_Add ws hs s t K := by
  constructor
  show K (addR ws hs s t).1 (addR ws hs s t).2.1 (addR ws hs s t).2.2
  rw [e]
  exact h

theorem example_ok {K : Bool → Prop} (h : K true) : L.law8_calendarExample K := by
  constructor
  unfold L.law8_calendarExample_B
  refine open_at (a := true) (c := 0) (i := 0) (by kernel_rfl) ?_
  refine next_at (a := 10140) (c := 0) (i := 0) (by kernel_rfl) ?_
  refine worked_at (a := 40) (c := 0) (i := 0) (by kernel_rfl) ?_
  refine add_at (a := 70) (c := 0) (i := 0) (by kernel_rfl) ?_
  exact h

theorem chk_cases (ws : List Win) (hs ts : List Int) : (chk ws hs ts).1 ≠ 0 ∨ (chk ws hs ts = (0, 0) ∧ Good ws hs ∧ ∀ t ∈ ts, 0 ≤ t ∧ t ≤ 10000000) := by
  obtain ⟨h1, h2⟩ := chk_code ws hs ts
  by_cases h : (chk ws hs ts).1 = 0
  · exact .inr ⟨h1 h, h2 (h1 h)⟩
  · exact .inl h

theorem ne_pair {p : Int × Int} (h : p.1 ≠ 0) : (p == (0, 0)) = false := by
  rw [beq_eq_false_iff_ne]
  rintro rfl
  exact h rfl

theorem open_cases (ws : List Win) (hs : List Int) (t : Int) : ∃ a c i, openR ws hs t = (a, (c, i)) ∧ (c ≠ 0 ∨ (c = 0 ∧ Good ws hs ∧ 0 ≤ t ∧ t ≤ 10000000 ∧ a = op ws hs t)) := by
  unfold openR
  rcases chk_cases ws hs [t] with h | ⟨h, hG, hT⟩
  · rw [ne_pair h]
    exact ⟨_, _, _, rfl, .inl h⟩
  · rw [h]
    obtain ⟨t0, t1⟩ := hT t (by simp)
    exact ⟨_, _, _, rfl, .inr ⟨rfl, hG, t0, t1, rfl⟩⟩

theorem next_cases (ws : List Win) (hs : List Int) (t : Int) : ∃ a c i, nextR ws hs t = (a, (c, i)) ∧ (((chk ws hs [t]).1 ≠ 0 ∧ a = 0 ∧ (c, i) = chk ws hs [t]) ∨ (chk ws hs [t] = (0, 0) ∧ Good ws hs ∧ 0 ≤ t ∧ t ≤ 10000000 ∧
    ((c = 0 ∧ i = 0 ∧ t ≤ a ∧ a < t + 500001 ∧ op ws hs a = true ∧ cnt (op ws hs) a = cnt (op ws hs) t) ∨ (a = 0 ∧ c = 6 ∧ i = -21 ∧ cnt (op ws hs) (t + 500001) = cnt (op ws hs) t)))) := by
  unfold nextR
  rcases chk_cases ws hs [t] with h | ⟨h, hG, hT⟩
  · rw [ne_pair h]
    exact ⟨_, _, _, rfl, .inl ⟨h, rfl, rfl⟩⟩
  · rw [h]
    obtain ⟨t0, t1⟩ := hT t (by simp)
    have hcov := str_cov (ws := ws) (hs := hs) (lo := t) (hi := t + 500000 + 1) hG.ok (by omega) t0
    have hf := Cov.first (by omega) hcov
    show ∃ a c i, nextS (str ws hs t (t + 500000 + 1)) = (a, (c, i)) ∧ _
    cases hx : str ws hs t (t + 500000 + 1) with
    | nil =>
      refine ⟨_, _, _, rfl, .inr ⟨rfl, hG, t0, t1, .inr ⟨rfl, rfl, rfl, ?_⟩⟩⟩
      exact cnt_none t0 (by omega) (fun m m1 m2 => hf.2 hx m m1 (by omega))
    | cons x r =>
      obtain ⟨g1, g2, g3, g4⟩ := hf.1 x r hx
      exact ⟨_, _, _, rfl, .inr ⟨rfl, hG, t0, t1, .inl ⟨rfl, rfl, g1, by omega, g3, cnt_none t0 g1 g4⟩⟩⟩

theorem worked_cases (ws : List Win) (hs : List Int) (s t : Int) : ∃ a c i, workedR ws hs s t = (a, (c, i)) ∧ (((chk ws hs [s, t]).1 ≠ 0 ∧ a = 0 ∧ (c, i) = chk ws hs [s, t]) ∨ (chk ws hs [s, t] = (0, 0) ∧ Good ws hs ∧ 0 ≤ s ∧ s ≤ 10000000 ∧ 0 ≤ t ∧ t ≤ 10000000 ∧
    (((t < s ∨ t > s + 500000) ∧ a = 0 ∧ c = 3 ∧ i = -21) ∨ (s ≤ t ∧ t ≤ s + 500000 ∧ c = 0 ∧ i = 0 ∧ a = cnt (op ws hs) t - cnt (op ws hs) s)))) := by
  unfold workedR
  rcases chk_cases ws hs [s, t] with h | ⟨h, hG, hT⟩
  · rw [ne_pair h]
    exact ⟨_, _, _, rfl, .inl ⟨h, rfl, rfl⟩⟩
  · rw [h]
    obtain ⟨s0, s1⟩ := hT s (by simp)
    obtain ⟨t0, t1⟩ := hT t (by simp)
    show ∃ a c i, (bif decide (t < s) || decide (t > s + 500000) then (0, (3, -21)) else (lens (str ws hs s t), (0, 0))) = (a, (c, i)) ∧ _
    cases hb : (decide (t < s) || decide (t > s + 500000)) with
    | true => exact ⟨_, _, _, rfl, .inr ⟨rfl, hG, s0, s1, t0, t1, .inl ⟨by simpa using hb, rfl, rfl, rfl⟩⟩⟩
    | false =>
      have hb' : ¬ (t < s ∨ t > s + 500000) := by simpa using hb
      have hcov := str_cov (ws := ws) (hs := hs) (lo := s) (hi := t) hG.ok (by omega) s0
      exact ⟨_, _, _, rfl, .inr ⟨rfl, hG, s0, s1, t0, t1, .inr ⟨by omega, by omega, rfl, rfl, Cov.lens s0 (by omega) hcov⟩⟩⟩

theorem add_cases (ws : List Win) (hs : List Int) (t m : Int) : ∃ a c i, addR ws hs t m = (a, (c, i)) ∧ (((chk ws hs [t]).1 ≠ 0 ∧ a = 0 ∧ (c, i) = chk ws hs [t]) ∨ (chk ws hs [t] = (0, 0) ∧ Good ws hs ∧ 0 ≤ t ∧ t ≤ 10000000 ∧
    (((m < 0 ∨ m > 500000) ∧ a = 0 ∧ c = 3 ∧ i = -21) ∨ (0 ≤ m ∧ m ≤ 500000 ∧ ((m = 0 ∧ a = t ∧ c = 0 ∧ i = 0) ∨ (0 < m ∧ c = 0 ∧ i = 0 ∧ t < a ∧ a ≤ t + 500000 ∧ cnt (op ws hs) a = cnt (op ws hs) t + m ∧ op ws hs (a - 1) = true) ∨
      (0 < m ∧ a = 0 ∧ c = 6 ∧ i = -22 ∧ cnt (op ws hs) (t + 500000) < cnt (op ws hs) t + m)))))) := by
  unfold addR
  rcases chk_cases ws hs [t] with h | ⟨h, hG, hT⟩
  · rw [ne_pair h]
    exact ⟨_, _, _, rfl, .inl ⟨h, rfl, rfl⟩⟩
  · rw [h]
    obtain ⟨t0, t1⟩ := hT t (by simp)
    show ∃ a c i, (bif decide (m < 0) || decide (m > 500000) then (0, (3, -21)) else bif m == 0 then (t, (0, 0)) else addE (addS (str ws hs t (t + 500000)) m)) = (a, (c, i)) ∧ _
    cases hb : (decide (m < 0) || decide (m > 500000)) with
    | true => exact ⟨_, _, _, rfl, .inr ⟨rfl, hG, t0, t1, .inl ⟨by simpa using hb, rfl, rfl, rfl⟩⟩⟩
    | false =>
      have hb' : ¬ (m < 0 ∨ m > 500000) := by simpa using hb
      cases hm : m == 0 with
      | true => exact ⟨_, _, _, rfl, .inr ⟨rfl, hG, t0, t1, .inr ⟨by omega, by omega, .inl ⟨by simpa using hm, rfl, rfl, rfl⟩⟩⟩⟩
      | false =>
        have hm' : ¬ m = 0 := by simpa using hm
        have hcov := str_cov (ws := ws) (hs := hs) (lo := t) (hi := t + 500000) hG.ok (by omega) t0
        obtain ⟨k1, k2⟩ := Cov.add t0 (show t ≤ t + 500000 by omega) (show 0 < m by omega) hcov
        cases ha : addS (str ws hs t (t + 500000)) m with
        | some r =>
          obtain ⟨r1, r2, r3, r4⟩ := k1 r ha
          exact ⟨_, _, _, rfl, .inr ⟨rfl, hG, t0, t1, .inr ⟨by omega, by omega, .inr (.inl ⟨by omega, rfl, rfl, r1, r2, r3, r4⟩)⟩⟩⟩
        | none => exact ⟨_, _, _, rfl, .inr ⟨rfl, hG, t0, t1, .inr ⟨by omega, by omega, .inr (.inr ⟨by omega, rfl, rfl, rfl, k2 ha⟩)⟩⟩⟩

theorem chk_ne {p : Int × Int} {c i : Int} (h : p.1 ≠ 0) (e : (c, i) = p) : c ≠ 0 := by rw [← e] at h; exact h

theorem good_chk {ws : List Win} {hs ts ts' : List Int} (h : chk ws hs ts = (0, 0)) (h' : ∀ t ∈ ts', 0 ≤ t ∧ t ≤ 10000000) : chk ws hs ts' = (0, 0) := by
  have hv : vld ws hs = (0, 0) := by
    unfold chk at h
    cases hv : vld ws hs == (0, 0) with
    | true => simpa using hv
    | false => rw [hv] at h; simp only [cond_false] at h; rw [h] at hv; cases hv
  unfold chk
  rw [hv]
  have : ts'.any tbad = false := by
    rw [List.any_eq_false]
    intro t ht
    have := h' t ht
    unfold tbad
    simp
    omega
  rw [this]
  rfl

theorem additive_true (ws : List Win) (hs : List Int) (s m t : Int) (K : Bool → Prop) (hK : K true) : L.law8_CalendarWorkedIsAdditive ws hs s m t K := by
  have fin : ∀ b : Bool, b = true → K b := fun b h => by rw [h]; exact hK
  constructor
  unfold L.law8_CalendarWorkedIsAdditive_B
  obtain ⟨a1, c1, i1, e1, h1⟩ := worked_cases ws hs s m
  obtain ⟨a2, c2, i2, e2, h2⟩ := worked_cases ws hs m t
  obtain ⟨a3, c3, i3, e3, h3⟩ := worked_cases ws hs s t
  refine worked_at e1 (worked_at e2 (worked_at e3 (example_ok (cond_f rfl ?_))))
  cases hb : (bif (bif (c1 != 0) then true else (c2 != 0)) then true else (c3 != 0)) with
  | true => exact hK
  | false =>
    simp only [bor, Bool.or_eq_false_iff, bne_eq_false_iff_eq] at hb
    obtain ⟨⟨rfl, rfl⟩, rfl⟩ := hb
    refine fin _ ?_
    rcases h1 with ⟨h, _, e⟩ | ⟨_, hG, s0, s1, m0, m1, ⟨_, _, h, _⟩ | ⟨b1, b2, _, _, rfl⟩⟩
    · exact absurd rfl (chk_ne h e)
    · cases h
    rcases h2 with ⟨h, _, e⟩ | ⟨_, _, _, _, t0, t1, ⟨_, _, h, _⟩ | ⟨b3, b4, _, _, rfl⟩⟩
    · exact absurd rfl (chk_ne h e)
    · cases h
    rcases h3 with ⟨h, _, e⟩ | ⟨_, _, _, _, _, _, ⟨_, _, h, _⟩ | ⟨b5, b6, _, _, rfl⟩⟩
    · exact absurd rfl (chk_ne h e)
    · cases h
    have k1 := cnt_mono (op ws hs) s0 b1
    have k2 := cnt_mono (op ws hs) m0 b3
    have k3 := cnt_mono (op ws hs) s0 b5
    rw [i64_id (by omega) (by omega), i64_id (by omega) (by omega)]
    simp only [band, Bool.and_eq_true, beq_iff_eq, decide_eq_true_eq]
    omega

theorem addmin_true (ws : List Win) (hs : List Int) (t m : Int) (K : Bool → Prop) (hK : K true) : L.law8_CalendarAddTakesMinutes ws hs t m K := by
  have fin : ∀ b : Bool, b = true → K b := fun b h => by rw [h]; exact hK
  constructor
  unfold L.law8_CalendarAddTakesMinutes_B
  obtain ⟨r, c1, i1, e1, h1⟩ := add_cases ws hs t m
  obtain ⟨a2, c2, i2, e2, h2⟩ := worked_cases ws hs t r
  obtain ⟨a3, c3, i3, e3, h3⟩ := open_cases ws hs (i64 (r - 1))
  refine add_at e1 (worked_at e2 (open_at e3 (example_ok (cond_f rfl ?_))))
  cases hb : (bif (c1 != 0) then true else decide (r > 10000000)) with
  | true => exact hK
  | false =>
    simp only [bor, Bool.or_eq_false_iff, bne_eq_false_iff_eq, decide_eq_false_iff_not] at hb
    obtain ⟨rfl, hr⟩ := hb
    refine fin _ ?_
    rcases h1 with ⟨h, _, e⟩ | ⟨hc, hG, t0, t1, h1⟩
    · exact absurd rfl (chk_ne h e)
    have hr2 : t ≤ r ∧ r ≤ t + 500000 ∧ cnt (op ws hs) r = cnt (op ws hs) t + m ∧ 0 ≤ m ∧ (m = 0 ∧ r = t ∨ 0 < m ∧ t < r ∧ op ws hs (r - 1) = true) := by
      rcases h1 with ⟨_, _, h, _⟩ | ⟨m0, m1, ⟨rfl, rfl, _⟩ | ⟨m2, _, _, g1, g2, g3, g4⟩ | ⟨_, _, h, _⟩⟩
      · cases h
      · exact ⟨by omega, by omega, by omega, by omega, .inl ⟨rfl, rfl⟩⟩
      · exact ⟨by omega, g2, g3, by omega, .inr ⟨m2, g1, g4⟩⟩
      · cases h
    obtain ⟨r1, r2, r3, m0, r4⟩ := hr2
    have hw : c2 = 0 ∧ a2 = m := by
      rcases h2 with ⟨h, _, _⟩ | ⟨_, _, _, _, _, _, ⟨h, _⟩ | ⟨_, _, h, _, h'⟩⟩
      · rw [good_chk hc (by intro x hx; simp at hx; rcases hx with rfl | rfl <;> omega)] at h
        exact absurd rfl h
      · omega
      · exact ⟨h, by omega⟩
    obtain ⟨rfl, rfl⟩ := hw
    have e5 : decide (r ≥ t) = true := by simpa using r1
    simp only [beq_self_eq_true, cond_true, e5]
    rcases r4 with ⟨rfl, rfl⟩ | ⟨m2, g1, g2⟩
    · simp
    · have e6 : (a2 == 0) = false := by simp; omega
      have e7 : decide (a2 > 0) = true := by simpa using m2
      rw [i64_id (by omega) (by omega)] at h3
      have ho : c3 = 0 ∧ a3 = true := by
        rcases h3 with h | ⟨h, _, _, _, h'⟩
        · have := e3
          rw [i64_id (by omega) (by omega)] at this
          unfold openR at this
          rw [good_chk hc (by intro x hx; simp at hx; subst hx; omega)] at this
          simp at this
          exact absurd this.2.1.symm h
        · exact ⟨h, by rw [h', g2]⟩
      obtain ⟨rfl, rfl⟩ := ho
      rw [e6, e7]
      rfl

theorem nextfirst_true (ws : List Win) (hs : List Int) (t : Int) (K : Bool → Prop) (hK : K true) : L.law8_CalendarNextIsFirst ws hs t K := by
  have fin : ∀ b : Bool, b = true → K b := fun b h => by rw [h]; exact hK
  constructor
  unfold L.law8_CalendarNextIsFirst_B
  obtain ⟨r, c1, i1, e1, h1⟩ := next_cases ws hs t
  obtain ⟨a2, c2, i2, e2, h2⟩ := open_cases ws hs r
  obtain ⟨a3, c3, i3, e3, h3⟩ := worked_cases ws hs t r
  refine next_at e1 (open_at e2 (worked_at e3 (example_ok (cond_f rfl ?_))))
  cases hb : (bif (c1 != 0) then true else decide (r > 10000000)) with
  | true => exact hK
  | false =>
    simp only [bor, Bool.or_eq_false_iff, bne_eq_false_iff_eq, decide_eq_false_iff_not] at hb
    obtain ⟨rfl, hr⟩ := hb
    refine fin _ ?_
    rcases h1 with ⟨h, _, e⟩ | ⟨hc, hG, t0, t1, ⟨_, _, g1, g2, g3, g4⟩ | ⟨_, h, _⟩⟩
    · exact absurd rfl (chk_ne h e)
    · have ho : c2 = 0 ∧ a2 = true := by
        rcases h2 with h | ⟨h, _, _, _, h'⟩
        · have := e2
          unfold openR at this
          rw [good_chk hc (by intro x hx; simp at hx; subst hx; omega)] at this
          simp at this
          exact absurd this.2.1.symm h
        · exact ⟨h, by rw [h', g3]⟩
      obtain ⟨rfl, rfl⟩ := ho
      by_cases hfar : r ≤ t + 500000
      · have hw : c3 = 0 ∧ a3 = 0 := by
          rcases h3 with ⟨h, _, _⟩ | ⟨_, _, _, _, _, _, ⟨h, _⟩ | ⟨_, _, h, _, h'⟩⟩
          · rw [good_chk hc (by intro x hx; simp at hx; rcases hx with rfl | rfl <;> omega)] at h
            exact absurd rfl h
          · omega
          · exact ⟨h, by omega⟩
        obtain ⟨rfl, rfl⟩ := hw
        have e5 : decide (r ≥ t) = true := by simpa using g1
        rw [e5]
        rfl
      · omega
    · cases h

theorem weekly_true (ws : List Win) (hs : List Int) (s t : Int) (K : Bool → Prop) (hK : K true) : L.law8_CalendarRepeatsWeekly ws hs s t K := by
  have fin : ∀ b : Bool, b = true → K b := fun b h => by rw [h]; exact hK
  constructor
  unfold L.law8_CalendarRepeatsWeekly_B
  obtain ⟨a1, c1, i1, e1, h1⟩ := open_cases ws [] s
  obtain ⟨a2, c2, i2, e2, h2⟩ := open_cases ws [] (i64 (s + 10080))
  obtain ⟨a3, c3, i3, e3, h3⟩ := worked_cases ws [] s t
  obtain ⟨a4, c4, i4, e4, h4⟩ := worked_cases ws [] (i64 (s + 10080)) (i64 (t + 10080))
  refine open_at e1 (open_at e2 (worked_at e3 (worked_at e4 (example_ok (cond_f rfl (fin _ ?_))))))
  simp only [bor, band, Bool.and_eq_true, Bool.or_eq_true, bne_iff_ne, ne_eq, beq_iff_eq]
  refine ⟨?_, ?_⟩
  · rcases h1 with h1 | ⟨_, _, s0, s1, rfl⟩
    · exact .inl (.inl h1)
    rcases h2 with h2 | ⟨_, _, _, _, rfl⟩
    · exact .inl (.inr h2)
    refine .inr ?_
    rw [i64_id (by omega) (by omega), op_week]
  · rcases h3 with ⟨h, _, e⟩ | ⟨_, hG, s0, s1, t0, t1, ⟨_, _, h, _⟩ | ⟨b1, b2, _, _, rfl⟩⟩
    · exact .inl (.inl (chk_ne h e))
    · exact .inl (.inl (by omega))
    rcases h4 with ⟨h, _, e⟩ | ⟨_, _, _, _, _, _, ⟨_, _, h, _⟩ | ⟨b3, b4, _, _, rfl⟩⟩
    · exact .inl (.inr (chk_ne h e))
    · exact .inl (.inr (by omega))
    refine .inr ?_
    rw [i64_id (n := s + 10080) (by omega) (by omega), i64_id (n := t + 10080) (by omega) (by omega)]
    have := cnt_weeks (ws := ws) s0 b1
    omega

end Ca
theorem CalendarWorkedIsAdditive_true (xs : ArgDen [(true, (.pair (.slice (.pair (.int .i64) (.pair (.int .i64) (.int .i64)))) (.slice (.int .i64)))), (false, .int .i64), (false, .int .i64), (false, .int .i64)]) (_ : WfAll _ xs) (K : Bool → Prop) (hK : K true) : L.law8_CalendarWorkedIsAdditive xs.1.1 xs.1.2 xs.2.1 xs.2.2.1 xs.2.2.2.1 K := Ca.additive_true _ _ _ _ _ K hK
theorem CalendarAddTakesMinutes_true (xs : ArgDen [(true, (.pair (.slice (.pair (.int .i64) (.pair (.int .i64) (.int .i64)))) (.slice (.int .i64)))), (false, .int .i64), (false, .int .i64)]) (_ : WfAll _ xs) (K : Bool → Prop) (hK : K true) : L.law8_CalendarAddTakesMinutes xs.1.1 xs.1.2 xs.2.1 xs.2.2.1 K := Ca.addmin_true _ _ _ _ K hK
theorem CalendarNextIsFirst_true (xs : ArgDen [(true, (.pair (.slice (.pair (.int .i64) (.pair (.int .i64) (.int .i64)))) (.slice (.int .i64)))), (false, .int .i64)]) (_ : WfAll _ xs) (K : Bool → Prop) (hK : K true) : L.law8_CalendarNextIsFirst xs.1.1 xs.1.2 xs.2.1 K := Ca.nextfirst_true _ _ _ K hK
theorem CalendarRepeatsWeekly_true (xs : ArgDen [(true, (.pair (.slice (.pair (.int .i64) (.pair (.int .i64) (.int .i64)))) (.slice (.int .i64)))), (false, .int .i64), (false, .int .i64)]) (_ : WfAll _ xs) (K : Bool → Prop) (hK : K true) : L.law8_CalendarRepeatsWeekly xs.1.1 xs.1.2 xs.2.1 xs.2.2.1 K := Ca.weekly_true _ _ _ _ K hK

end Go.Proofs.Ytmnalcfclcgmkaa

/-
  Calendars that are valid: what Validate and check answer. Conditions: none.
-/
import Derived.Test.YtmnalcfclcgmkaaCaI
set_option linter.unusedVariables false
set_option linter.unusedSimpArgs false
namespace Go.Proofs.Ytmnalcfclcgmkaa
namespace Ca
open Eng

def wbad (w : Win) : Bool := decide (w.1 < 0) || decide (w.1 ≥ 7) || decide (w.2.1 < 0) || decide (w.2.2 > 1440) || decide (w.2.1 ≥ w.2.2)
def wbeh (p w : Win) : Bool := decide (w.1 < p.1) || (w.1 == p.1 && decide (w.2.1 < p.2.2))

def wcode (p : Option Win) (w : Win) : Int := bif wbad w then 3 else match p with
  | some p => bif wbeh p w then 5 else 0
  | none => 0

def wchk : Nat → Option Win → List Win → Option (Int × Int)
  | _, _, [] => none
  | i, p, w :: r => bif wcode p w != 0 then some (wcode p w, (i : Int)) else wchk (i + 1) (some w) r

def hcode (p : Option Int) (d : Int) : Int := bif decide (d < 0) || decide (d > 6944) then 3 else match p with
  | some q => bif decide (d ≤ q) then 5 else 0
  | none => 0

def hchk : Nat → Option Int → List Int → Option (Int × Int)
  | _, _, [] => none
  | i, p, d :: r => bif hcode p d != 0 then some (hcode p d, -3 - (i : Int)) else hchk (i + 1) (some d) r

/-- What Validate answers. -/
def vld (ws : List Win) (hs : List Int) : Int × Int :=
  bif decide (ws.length > 12) then (2, -1) else bif decide (hs.length > 12) then (2, -2) else match wchk 0 none ws with
    | some f => f
    | none => match hchk 0 none hs with
      | some f => f
      | none => (0, 0)

def tbad (t : Int) : Bool := decide (t < 0) || decide (t > 10000000)

/-- What check answers. -/
def chk (ws : List Win) (hs ts : List Int) : Int × Int := bif vld ws hs == (0, 0) then bif ts.any tbad then (3, -20) else (0, 0) else vld ws hs

theorem win_none (w : Win) (K : Int → Prop) (hK : K (wcode none w)) : C.calendar_checkWindow w.1 w.2.1 w.2.2 [] K := by
  constructor
  unfold C.calendar_checkWindow_B
  simp only [bor]
  show bif wbad w then K 3 else _
  unfold wcode at hK
  cases h : wbad w with
  | true => rw [h] at hK; exact hK
  | false =>
    rw [h] at hK
    refine ⟨1, ?_⟩
    exact hK

theorem win_some (p w : Win) (K : Int → Prop) (hK : K (wcode (some p) w)) : C.calendar_checkWindow w.1 w.2.1 w.2.2 [p] K := by
  constructor
  unfold C.calendar_checkWindow_B
  simp only [bor]
  show bif wbad w then K 3 else _
  unfold wcode at hK
  cases h : wbad w with
  | true => rw [h] at hK; exact hK
  | false =>
    rw [h] at hK
    refine ⟨2, ?_⟩
    unfold C.calendar_checkWindow_L1_R C.calendar_checkWindow_L1_b
    refine cond_t rfl ⟨⟨by decide, by simp⟩, ?_⟩
    have e : (bif decide (w.1 < (([p].getD (Int.toNat 0) (0, (0, 0))) : Win).1) then true else bif w.1 == (([p].getD (Int.toNat 0) (0, (0, 0))) : Win).1 then decide (w.2.1 < (([p].getD (Int.toNat 0) (0, (0, 0))) : Win).2.2) else false) = wbeh p w := by
      rw [bor, band]; rfl
    rw [e]
    cases h2 : wbeh p w with
    | true => simp only [cond_false, h2, cond_true] at hK; exact hK
    | false => simp only [cond_false, h2] at hK; exact hK

def prev {α : Type} (l : List α) : Nat → Option α
  | 0 => none
  | k + 1 => l[k]?

theorem before_eq {α : Type} (l : List α) (k : Nat) (hk : k ≤ l.length) : (l.take k).drop (k - 1) = match prev l k with | some p => [p] | none => [] := by
  cases k with
  | zero => rfl
  | succ k =>
    have hlt : k < l.length := hk
    show (l.take (k + 1)).drop k = _
    simp only [prev, List.getElem?_eq_getElem hlt]
    rw [List.take_succ_eq_append_getElem hlt, List.drop_append_of_le_length (by rw [List.length_take]; omega), List.drop_eq_nil_of_le (by rw [List.length_take]; omega)]
    rfl

theorem val1 (ws : List Win) (hl : ws.length ≤ 12) (K0 : Prop) (K : Int → Int → Prop) : ∀ (n k : Nat), n + k = ws.length →
    (match wchk k (prev ws k) (ws.drop k) with | some f => K f.1 f.2 | none => K0) →
    C.calendar_Validate_L1_R ws (ws.length : Int) ws (n + 1) (k : Int) K0 (fun a b => K a b)
  | 0, k, hn, hK => by
    unfold C.calendar_Validate_L1_R C.calendar_Validate_L1_b
    have e : k = ws.length := by omega
    subst e
    rw [List.drop_length] at hK
    exact cond_f (by simp) hK
  | n + 1, k, hn, hK => by
    unfold C.calendar_Validate_L1_R C.calendar_Validate_L1_b
    have hlt : k < ws.length := by omega
    have e2 : (k : Int).toNat = k := by omega
    have e3 : i64 ((k : Int) - 1) = (k : Int) - 1 := i64_id (by omega) (by omega)
    have e4 : amx ((k : Int) - 1) 0 = ((k - 1 : Nat) : Int) := by
      unfold amx
      split <;> omega
    have e5 : ((k - 1 : Nat) : Int).toNat = k - 1 := by omega
    have e6 : i64 ((k : Int) + 1) = ((k + 1 : Nat) : Int) := by rw [i64_id (n := (k : Int) + 1) (by omega) (by omega)]; omega
    refine cond_t (by simpa using hlt) ⟨⟨by omega, by omega⟩, ?_, ?_⟩
    · rw [e3, e4]; omega
    · rw [e3, e4, e2, e5, List.getD_eq_getElem?_getD, List.getElem?_eq_getElem hlt, Option.getD_some, before_eq ws k (by omega)]
      rw [List.drop_eq_getElem_cons hlt] at hK
      simp only [wchk] at hK
      have hnext : ∀ c : Int, c = wcode (prev ws k) ws[k] → (bif c != 0 then K c (k : Int) else C.calendar_Validate_L1_R ws (ws.length : Int) ws (n + 1) (i64 ((k : Int) + 1)) K0 (fun a b => K a b)) := by
        intro c hc
        rw [← hc] at hK
        cases hz : c != 0 with
        | true => rw [hz] at hK; exact hK
        | false =>
          rw [hz] at hK
          rw [e6]
          refine val1 ws hl K0 K n (k + 1) (by omega) ?_
          have ep : prev ws (k + 1) = some ws[k] := List.getElem?_eq_getElem hlt
          rw [ep]
          exact hK
      cases hp : prev ws k with
      | none => exact win_none _ _ (hnext _ (by rw [hp]))
      | some p => exact win_some p _ _ (hnext _ (by rw [hp]))

theorem val2 (hs : List Int) (hl : hs.length ≤ 12) (K0 : Prop) (K : Int → Int → Prop) : ∀ (n k : Nat), n + k = hs.length →
    (match hchk k (prev hs k) (hs.drop k) with | some f => K f.1 f.2 | none => K0) →
    C.calendar_Validate_L2_R hs (hs.length : Int) hs (n + 1) (k : Int) K0 (fun a b => K a b)
  | 0, k, hn, hK => by
    unfold C.calendar_Validate_L2_R C.calendar_Validate_L2_b
    have e : k = hs.length := by omega
    subst e
    rw [List.drop_length] at hK
    exact cond_f (by simp) hK
  | n + 1, k, hn, hK => by
    unfold C.calendar_Validate_L2_R C.calendar_Validate_L2_b
    have hlt : k < hs.length := by omega
    have e2 : (k : Int).toNat = k := by omega
    have e3 : i64 ((k : Int) - 1) = (k : Int) - 1 := i64_id (by omega) (by omega)
    have e4 : i64 (-3 - (k : Int)) = -3 - (k : Int) := i64_id (by omega) (by omega)
    have e6 : i64 ((k : Int) + 1) = ((k + 1 : Nat) : Int) := by rw [i64_id (n := (k : Int) + 1) (by omega) (by omega)]; omega
    refine cond_t (by simpa using hlt) ⟨⟨by omega, by omega⟩, ?_⟩
    rw [e2, e3, e4, List.getD_eq_getElem?_getD, List.getElem?_eq_getElem hlt, Option.getD_some, bor]
    rw [List.drop_eq_getElem_cons hlt] at hK
    simp only [hchk] at hK
    cases hb : (decide (hs[k] < 0) || decide (hs[k] > 6944)) with
    | true =>
      have ec : hcode (prev hs k) hs[k] = 3 := by unfold hcode; rw [hb]; rfl
      rw [ec] at hK
      exact hK
    | false =>
      refine ⟨fun hpos => ?_, ?_⟩
      · have : (0 : Int) < k := by simpa using hpos
        exact ⟨by omega, by omega⟩
      · have ep : prev hs (k + 1) = some hs[k] := List.getElem?_eq_getElem hlt
        have go : (match hchk (k + 1) (some hs[k]) (hs.drop (k + 1)) with | some f => K f.1 f.2 | none => K0) → C.calendar_Validate_L2_R hs (hs.length : Int) hs (n + 1) (i64 ((k : Int) + 1)) K0 (fun a b => K a b) := by
          intro h
          rw [e6]
          refine val2 hs hl K0 K n (k + 1) (by omega) ?_
          rw [ep]
          exact h
        have ec : hcode (prev hs k) hs[k] = bif (decide ((k : Int) > 0) && decide (hs[k] ≤ hs.getD ((k : Int) - 1).toNat 0)) then 5 else 0 := by
          unfold hcode
          rw [hb]
          cases k with
          | zero => rfl
          | succ k =>
            have e7 : (((k + 1 : Nat) : Int) - 1).toNat = k := by omega
            have e8 : decide (((k + 1 : Nat) : Int) > 0) = true := by simp
            rw [e7, e8]
            simp only [prev, List.getElem?_eq_getElem (show k < hs.length by omega), Bool.true_and, cond_false, List.getD_eq_getElem?_getD, Option.getD_some]
        rw [band]
        rw [ec] at hK
        cases hq : (decide ((k : Int) > 0) && decide (hs[k] ≤ hs.getD ((k : Int) - 1).toNat 0)) with
        | true => rw [hq] at hK; exact hK
        | false => rw [hq] at hK; exact go hK

theorem validate_ok (ws : List Win) (hs : List Int) (K : Int → Int → Prop) (hK : K (vld ws hs).1 (vld ws hs).2) : C.calendar_Validate ws hs K := by
  constructor
  unfold C.calendar_Validate_B
  unfold vld at hK
  by_cases h1 : ws.length > 12
  · rw [show decide (ws.length > 12) = true by simpa using h1] at hK
    exact cond_t (by simp; omega) hK
  · rw [show decide (ws.length > 12) = false by simpa using h1] at hK
    refine cond_f (by simp; omega) ?_
    simp only [cond_false] at hK
    by_cases h2 : hs.length > 12
    · rw [show decide (hs.length > 12) = true by simpa using h2] at hK
      exact cond_t (by simp; omega) hK
    · rw [show decide (hs.length > 12) = false by simpa using h2] at hK
      refine cond_f (by simp; omega) ?_
      simp only [cond_false] at hK
      refine ⟨ws.length + 1, val1 ws (by omega) _ (fun a b => K a b) ws.length 0 (by omega) ?_⟩
      show match wchk 0 none (ws.drop 0) with | some f => K f.1 f.2 | none => _
      rw [List.drop_zero]
      cases hw : wchk 0 none ws with
      | some f => rw [hw] at hK; exact hK
      | none =>
        rw [hw] at hK
        simp only at hK
        refine ⟨hs.length + 1, val2 hs (by omega) _ (fun a b => K a b) hs.length 0 (by omega) ?_⟩
        show match hchk 0 none (hs.drop 0) with | some f => K f.1 f.2 | none => _
        rw [List.drop_zero]
        cases hh : hchk 0 none hs with
        | some f => rw [hh] at hK; exact hK
        | none => rw [hh] at hK; exact hK

theorem idxf (s : List Int) (hs : s.length ≤ 12) (K : Int → Prop) : ∀ (n k : Nat), n + k = s.length → s.any tbad = (s.drop k).any tbad →
    (∀ r : Int, decide (r ≥ 0) = s.any tbad → K r) → C.slices_IndexFunc_v2_L1_R s (s.length : Int) (n + 1) (k : Int) (K (-1)) (fun r => K r)
  | 0, k, hn, hp, hK => by
    unfold C.slices_IndexFunc_v2_L1_R C.slices_IndexFunc_v2_L1_b
    have e : k = s.length := by omega
    subst e
    rw [List.drop_length] at hp
    exact cond_f (by simp) (hK _ (by rw [hp]; rfl))
  | n + 1, k, hn, hp, hK => by
    unfold C.slices_IndexFunc_v2_L1_R C.slices_IndexFunc_v2_L1_b
    have hlt : k < s.length := by omega
    have e2 : (k : Int).toNat = k := by omega
    have e6 : i64 ((k : Int) + 1) = ((k + 1 : Nat) : Int) := by rw [i64_id (n := (k : Int) + 1) (by omega) (by omega)]; omega
    refine cond_t (by simpa using hlt) ⟨⟨by omega, by omega⟩, ?_⟩
    rw [e2, List.getD_eq_getElem?_getD, List.getElem?_eq_getElem hlt, Option.getD_some]
    constructor
    unfold C.calendar_check_1_B
    rw [bor]
    rw [List.drop_eq_getElem_cons hlt, List.any_cons] at hp
    show bif tbad s[k] then K (k : Int) else _
    cases hb : tbad s[k] with
    | true =>
      rw [hb] at hp
      refine hK _ ?_
      rw [hp]
      simp
    | false =>
      rw [hb] at hp
      show C.slices_IndexFunc_v2_L1_R s (s.length : Int) (n + 1) (i64 ((k : Int) + 1)) (K (-1)) (fun r => K r)
      rw [e6]
      exact idxf s hs K n (k + 1) (by omega) hp hK

theorem check_ok (ws : List Win) (hs ts : List Int) (hts : ts.length ≤ 12) (K : Int → Int → Prop) (hK : K (chk ws hs ts).1 (chk ws hs ts).2) : C.calendar_check ws hs ts K := by
  constructor
  unfold C.calendar_check_B
  refine validate_ok ws hs _ ?_
  unfold chk at hK
  have e : ((vld ws hs).1 == 0 && ((vld ws hs).2 == 0 && true)) = (vld ws hs == (0, 0)) := by
    rw [Bool.and_true]; rfl
  rw [e]
  cases hv : vld ws hs == (0, 0) with
  | false => rw [hv] at hK; exact hK
  | true =>
    rw [hv] at hK
    simp only [Bool.not_true, cond_false]
    simp only [cond_true] at hK
    constructor
    unfold C.slices_ContainsFunc_v1_B
    constructor
    unfold C.slices_IndexFunc_v2_B
    refine ⟨ts.length + 1, idxf ts hts (fun r => bif decide (r ≥ 0) then K 3 (-20) else K 0 0) ts.length 0 (by omega) (by rw [List.drop_zero]) (fun r hr => ?_)⟩
    rw [hr]
    cases hb : ts.any tbad with
    | true => rw [hb] at hK; exact hK
    | false => rw [hb] at hK; exact hK

/-! ### What a valid calendar is -/

theorem wchk_ok : ∀ (ws : List Win) (i : Nat) (p : Option Win), wchk i p ws = none → (∀ q, p = some q → wok q) → Ok ws ∧ ∀ q, p = some q → ∀ w ∈ ws, wlt q w
  | [], _, _, _, _ => ⟨⟨fun w h => by simp at h, List.Pairwise.nil⟩, fun q _ w h => by simp at h⟩
  | w :: r, i, p, h, hp => by
    simp only [wchk] at h
    cases hc : wcode p w != 0 with
    | true => rw [hc] at h; cases h
    | false =>
      rw [hc] at h
      have hz : wcode p w = 0 := by simpa using hc
      have hwb : wbad w = false := by
        cases hb : wbad w with
        | false => rfl
        | true => unfold wcode at hz; rw [hb] at hz; cases hz
      have hw : wok w := by
        unfold wbad at hwb
        simp only [Bool.or_eq_false_iff, decide_eq_false_iff_not] at hwb
        obtain ⟨⟨⟨⟨a1, a2⟩, a3⟩, a4⟩, a5⟩ := hwb
        exact ⟨by omega, by omega, by omega, by omega, by omega⟩
      obtain ⟨⟨ih1, ih2⟩, ih3⟩ := wchk_ok r (i + 1) (some w) h (fun q e => by cases e; exact hw)
      have hwr := ih3 w rfl
      refine ⟨⟨fun x hx => ?_, List.pairwise_cons.2 ⟨hwr, ih2⟩⟩, fun q hq x hx => ?_⟩
      · rcases List.mem_cons.1 hx with rfl | hx
        · exact hw
        · exact ih1 x hx
      · subst hq
        have hqw : wlt q w := by
          unfold wcode at hz
          rw [hwb] at hz
          simp only [cond_false] at hz
          cases hb : wbeh q w with
          | true => rw [hb] at hz; cases hz
          | false =>
            unfold wbeh at hb
            simp only [Bool.or_eq_false_iff, decide_eq_false_iff_not, Bool.and_eq_false_iff, beq_eq_false_iff_ne, ne_eq] at hb
            obtain ⟨b1, b2⟩ := hb
            unfold wlt
            rcases b2 with b2 | b2 <;> omega
        rcases List.mem_cons.1 hx with rfl | hx
        · exact hqw
        · have hq := hp q rfl
          have hwx := hwr x hx
          obtain ⟨q1, q2, q3, q4, q5⟩ := hq
          obtain ⟨w1, w2, w3, w4, w5⟩ := hw
          unfold wlt at *
          omega

theorem hchk_ok : ∀ (hs : List Int) (i : Nat) (p : Option Int), hchk i p hs = none → (∀ h ∈ hs, 0 ≤ h ∧ h ≤ 6944) ∧ hs.Pairwise (· < ·) ∧ ∀ q, p = some q → ∀ h ∈ hs, q < h
  | [], _, _, _ => ⟨fun h hh => by simp at hh, List.Pairwise.nil, fun q _ h hh => by simp at hh⟩
  | d :: r, i, p, h => by
    simp only [hchk] at h
    cases hc : hcode p d != 0 with
    | true => rw [hc] at h; cases h
    | false =>
      rw [hc] at h
      have hz : hcode p d = 0 := by simpa using hc
      obtain ⟨ih1, ih2, ih3⟩ := hchk_ok r (i + 1) (some d) h
      have hdr := ih3 d rfl
      have hb : (decide (d < 0) || decide (d > 6944)) = false := by
        cases hb : (decide (d < 0) || decide (d > 6944)) with
        | false => rfl
        | true => unfold hcode at hz; rw [hb] at hz; cases hz
      have hb' := hb
      simp only [Bool.or_eq_false_iff, decide_eq_false_iff_not] at hb'
      refine ⟨fun x hx => ?_, List.pairwise_cons.2 ⟨hdr, ih2⟩, fun q hq x hx => ?_⟩
      · rcases List.mem_cons.1 hx with rfl | hx
        · omega
        · exact ih1 x hx
      · subst hq
        have hqd : q < d := by
          unfold hcode at hz
          rw [hb] at hz
          simp only [cond_false] at hz
          cases hl : decide (d ≤ q) with
          | true => rw [hl] at hz; cases hz
          | false => simpa using hl
        rcases List.mem_cons.1 hx with rfl | hx
        · exact hqd
        · have := hdr x hx
          omega

/-- A valid calendar. -/
structure Good (ws : List Win) (hs : List Int) : Prop where
  ok : Ok ws
  wl : ws.length ≤ 12
  hl : hs.length ≤ 12
  hp : ∀ h ∈ hs, 0 ≤ h ∧ h ≤ 6944
  hn : hs.Nodup

theorem wchk_code : ∀ (ws : List Win) (i : Nat) (p : Option Win) (f : Int × Int), wchk i p ws = some f → f.1 ≠ 0
  | [], _, _, _, h => by cases h
  | w :: r, i, p, f, h => by
    simp only [wchk] at h
    cases hc : wcode p w != 0 with
    | true => rw [hc] at h; cases h; simpa using hc
    | false => rw [hc] at h; exact wchk_code r _ _ f h

theorem hchk_code : ∀ (hs : List Int) (i : Nat) (p : Option Int) (f : Int × Int), hchk i p hs = some f → f.1 ≠ 0
  | [], _, _, _, h => by cases h
  | w :: r, i, p, f, h => by
    simp only [hchk] at h
    cases hc : hcode p w != 0 with
    | true => rw [hc] at h; cases h; simpa using hc
    | false => rw [hc] at h; exact hchk_code r _ _ f h

/-- A fault has a code, and without one the calendar is good. -/
theorem vld_code (ws : List Win) (hs : List Int) : ((vld ws hs).1 = 0 → vld ws hs = (0, 0)) ∧ (vld ws hs = (0, 0) → Good ws hs) := by
  unfold vld
  by_cases h1 : ws.length > 12
  · rw [show decide (ws.length > 12) = true by simpa using h1]
    exact ⟨(fun h => by simp at h), (fun h => by simp at h)⟩
  · rw [show decide (ws.length > 12) = false by simpa using h1]
    by_cases h2 : hs.length > 12
    · rw [show decide (hs.length > 12) = true by simpa using h2]
      exact ⟨(fun h => by simp at h), (fun h => by simp at h)⟩
    · rw [show decide (hs.length > 12) = false by simpa using h2]
      simp only [cond_false]
      cases hw : wchk 0 none ws with
      | some f =>
        have := wchk_code ws 0 none f hw
        exact ⟨fun h => absurd h this, fun h => by simp only at h; rw [h] at this; exact absurd rfl this⟩
      | none =>
        cases hh : hchk 0 none hs with
        | some f =>
          have := hchk_code hs 0 none f hh
          exact ⟨fun h => absurd h this, fun h => by simp only at h; rw [h] at this; exact absurd rfl this⟩
        | none =>
          refine ⟨fun _ => rfl, fun _ => ?_⟩
          obtain ⟨g1, _⟩ := wchk_ok ws 0 none hw (fun q e => by cases e)
          obtain ⟨g2, g3, _⟩ := hchk_ok hs 0 none hh
          exact ⟨g1, by omega, by omega, g2, g3.imp (fun h => by omega)⟩

theorem chk_code (ws : List Win) (hs ts : List Int) : ((chk ws hs ts).1 = 0 → chk ws hs ts = (0, 0)) ∧ (chk ws hs ts = (0, 0) → Good ws hs ∧ ∀ t ∈ ts, 0 ≤ t ∧ t ≤ 10000000) := by
  obtain ⟨v1, v2⟩ := vld_code ws hs
  unfold chk
  cases hv : vld ws hs == (0, 0) with
  | false =>
    simp only [cond_false]
    have hne : vld ws hs ≠ (0, 0) := by simpa using hv
    exact ⟨fun h => v1 h, fun h => absurd h hne⟩
  | true =>
    have hev : vld ws hs = (0, 0) := by simpa using hv
    simp only [cond_true]
    cases hb : ts.any tbad with
    | true => exact ⟨(fun h => by simp at h), (fun h => by simp at h)⟩
    | false =>
      refine ⟨fun _ => rfl, fun _ => ⟨v2 hev, fun t ht => ?_⟩⟩
      rw [List.any_eq_false] at hb
      have := hb t ht
      unfold tbad at this
      simp at this
      omega

end Ca
end Go.Proofs.Ytmnalcfclcgmkaa

/-
  The reference's functions over calendars, as plain functions. Conditions: none.
-/
import Derived.Test.YtmnalcfclcgmkaaCaR
set_option linter.unusedVariables false
set_option maxRecDepth 100000
namespace Go.Proofs.Ytmnalcfclcgmkaa
open Eng
namespace Ca

theorem fault_k {c i : Int} {K : Int → Int → Prop} (h : K c i) : L.ref8_Fault c i K := ⟨h⟩

theorem vld_at {ws : List Win} {hs : List Int} {c i : Int} (e : vld ws hs = (c, i)) {K : Int → Int → Prop} (h : K c i) : L.calendar_Validate ws hs K := by
  constructor
  show K (vld ws hs).1 (vld ws hs).2
  rw [e]
  exact h

theorem getD_lt {α : Type} {l : List α} {k : Nat} {d : α} (h : k < l.length) : l.getD k d = l[k] := by
  rw [List.getD_eq_getElem?_getD, List.getElem?_eq_getElem h, Option.getD_some]

theorem ref1 (ws : List Win) (hl : ws.length ≤ 12) (K0 : Prop) (K : Int → Int → Prop) : ∀ (n k : Nat), n + k = ws.length →
    (match wchk k (prev ws k) (ws.drop k) with | some f => K f.1 f.2 | none => K0) →
    L.ref8_CalendarFault_L1_R ws (n + 1) (k : Int) K0 (fun a b => K a b)
  | 0, k, hn, hK => by
    unfold L.ref8_CalendarFault_L1_R L.ref8_CalendarFault_L1_b
    have e : k = ws.length := by omega
    subst e
    rw [List.drop_length] at hK
    exact cond_f (by simp) hK
  | n + 1, k, hn, hK => by
    unfold L.ref8_CalendarFault_L1_R L.ref8_CalendarFault_L1_b
    have hlt : k < ws.length := by omega
    have e2 : (k : Int).toNat = k := by omega
    have e3 : i64 ((k : Int) - 1) = (k : Int) - 1 := i64_id (by omega) (by omega)
    have e6 : i64 ((k : Int) + 1) = ((k + 1 : Nat) : Int) := by rw [i64_id (n := (k : Int) + 1) (by omega) (by omega)]; omega
    refine cond_t (by simpa using hlt) ⟨⟨by omega, by omega⟩, ?_⟩
    rw [e2, e3, e6, getD_lt hlt]
    rw [List.drop_eq_getElem_cons hlt] at hK
    simp only [wchk] at hK
    have ep : prev ws (k + 1) = some ws[k] := List.getElem?_eq_getElem hlt
    have hnext : wcode (prev ws k) ws[k] = 0 → L.ref8_CalendarFault_L1_R ws (n + 1) ((k + 1 : Nat) : Int) K0 (fun a b => K a b) := by
      intro hz
      rw [hz] at hK
      refine ref1 ws hl K0 K n (k + 1) (by omega) ?_
      rw [ep]
      exact hK
    have eb : (bif bif bif bif decide (ws[k].1 < 0) then true else decide (ws[k].1 > 6) then true else decide (ws[k].2.1 < 0) then true else decide (ws[k].2.2 > 1440) then true else decide (ws[k].2.1 ≥ ws[k].2.2)) = wbad ws[k] := by
      unfold wbad
      simp only [bor]
      have : decide (ws[k].1 > 6) = decide (ws[k].1 ≥ 7) := decide_eq_decide.2 (by omega)
      rw [this]
    rw [eb]
    cases hb : wbad ws[k] with
    | true =>
      have ec : wcode (prev ws k) ws[k] = 3 := by unfold wcode; rw [hb]; rfl
      rw [ec] at hK
      exact fault_k hK
    | false =>
      simp only [cond_false]
      cases k with
      | zero => exact hnext (by unfold wcode; rw [hb]; rfl)
      | succ k =>
        have e7 : (((k + 1 : Nat) : Int) - 1).toNat = k := by omega
        have hp : prev ws (k + 1) = some ws[k] := List.getElem?_eq_getElem (show k < ws.length by omega)
        refine cond_t (by simp) ⟨⟨by omega, by omega⟩, ?_⟩
        rw [e7, getD_lt (show k < ws.length by omega)]
        have eh : (bif decide (ws[k + 1].1 < ws[k].1) then true else bif ws[k + 1].1 == ws[k].1 then decide (ws[k + 1].2.1 < ws[k].2.2) else false) = wbeh ws[k] ws[k + 1] := by
          unfold wbeh
          rw [bor, band]
        rw [eh]
        have ec : wcode (prev ws (k + 1)) ws[k + 1] = bif wbeh ws[k] ws[k + 1] then 5 else 0 := by unfold wcode; rw [hb, hp]; rfl
        cases h2 : wbeh ws[k] ws[k + 1] with
        | true => rw [ec, h2] at hK; exact fault_k hK
        | false => exact hnext (by rw [ec, h2]; rfl)

theorem ref2 (hs : List Int) (hl : hs.length ≤ 12) (K0 : Prop) (K : Int → Int → Prop) : ∀ (n k : Nat), n + k = hs.length →
    (match hchk k (prev hs k) (hs.drop k) with | some f => K f.1 f.2 | none => K0) →
    L.ref8_CalendarFault_L2_R hs (n + 1) (k : Int) K0 (fun a b => K a b)
  | 0, k, hn, hK => by
    unfold L.ref8_CalendarFault_L2_R L.ref8_CalendarFault_L2_b
    have e : k = hs.length := by omega
    subst e
    rw [List.drop_length] at hK
    exact cond_f (by simp) hK
  | n + 1, k, hn, hK => by
    unfold L.ref8_CalendarFault_L2_R L.ref8_CalendarFault_L2_b
    have hlt : k < hs.length := by omega
    have e2 : (k : Int).toNat = k := by omega
    have e3 : i64 ((k : Int) - 1) = (k : Int) - 1 := i64_id (by omega) (by omega)
    have e4 : i64 (-3 - (k : Int)) = -3 - (k : Int) := i64_id (by omega) (by omega)
    have e6 : i64 ((k : Int) + 1) = ((k + 1 : Nat) : Int) := by rw [i64_id (n := (k : Int) + 1) (by omega) (by omega)]; omega
    refine cond_t (by simpa using hlt) ⟨⟨by omega, by omega⟩, fun _ => ⟨by omega, by omega⟩, ?_⟩
    rw [e2, e3, e4, e6, getD_lt hlt, bor]
    rw [List.drop_eq_getElem_cons hlt] at hK
    simp only [hchk] at hK
    cases hb : (decide (hs[k] < 0) || decide (hs[k] > 6944)) with
    | true =>
      have ec : hcode (prev hs k) hs[k] = 3 := by unfold hcode; rw [hb]; rfl
      rw [ec] at hK
      exact fault_k hK
    | false =>
      refine ⟨fun _ => ⟨by omega, by omega⟩, fun hpos => ?_, ?_⟩
      · have : (0 : Int) < k := by simpa using hpos
        exact ⟨by omega, by omega⟩
      · have ep : prev hs (k + 1) = some hs[k] := List.getElem?_eq_getElem hlt
        have ec : hcode (prev hs k) hs[k] = bif (decide ((k : Int) > 0) && decide (hs[k] ≤ hs.getD ((k : Int) - 1).toNat 0)) then 5 else 0 := by
          unfold hcode
          rw [hb]
          cases k with
          | zero => rfl
          | succ k =>
            have e7 : (((k + 1 : Nat) : Int) - 1).toNat = k := by omega
            have e8 : decide (((k + 1 : Nat) : Int) > 0) = true := by simp
            rw [e7, e8]
            simp only [prev, List.getElem?_eq_getElem (show k < hs.length by omega), Bool.true_and, cond_false, List.getD_eq_getElem?_getD, Option.getD_some]
        rw [band]
        rw [ec] at hK
        cases hq : (decide ((k : Int) > 0) && decide (hs[k] ≤ hs.getD ((k : Int) - 1).toNat 0)) with
        | true => rw [hq] at hK; exact fault_k hK
        | false =>
          rw [hq] at hK
          refine ref2 hs hl K0 K n (k + 1) (by omega) ?_
          rw [ep]
          exact hK

theorem ref_at {ws : List Win} {hs : List Int} {c i : Int} (e : vld ws hs = (c, i)) {K : Int → Int → Prop} (hK' : K c i) : L.ref8_CalendarFault ws hs K := by
  have hK : K (vld ws hs).1 (vld ws hs).2 := by rw [e]; exact hK'
  clear hK' e
  constructor
  unfold L.ref8_CalendarFault_B
  unfold vld at hK
  by_cases h1 : ws.length > 12
  · rw [show decide (ws.length > 12) = true by simpa using h1] at hK
    exact cond_t (by simp; omega) (fault_k hK)
  · rw [show decide (ws.length > 12) = false by simpa using h1] at hK
    refine cond_f (by simp; omega) ?_
    simp only [cond_false] at hK
    by_cases h2 : hs.length > 12
    · rw [show decide (hs.length > 12) = true by simpa using h2] at hK
      exact cond_t (by simp; omega) (fault_k hK)
    · rw [show decide (hs.length > 12) = false by simpa using h2] at hK
      refine cond_f (by simp; omega) ?_
      simp only [cond_false] at hK
      refine ⟨ws.length + 1, ref1 ws (by omega) _ (fun a b => K a b) ws.length 0 (by omega) ?_⟩
      show match wchk 0 none (ws.drop 0) with | some f => K f.1 f.2 | none => _
      rw [List.drop_zero]
      cases hw : wchk 0 none ws with
      | some f => rw [hw] at hK; exact hK
      | none =>
        rw [hw] at hK
        simp only at hK
        refine ⟨hs.length + 1, ref2 hs (by omega) _ (fun a b => K a b) hs.length 0 (by omega) ?_⟩
        show match hchk 0 none (hs.drop 0) with | some f => K f.1 f.2 | none => _
        rw [List.drop_zero]
        cases hh : hchk 0 none hs with
        | some f => rw [hh] at hK; exact hK
        | none => rw [hh] at hK; exact fault_k hK

theorem has1 (l : List Int) (d : Int) (hl : l.length ≤ 12) (K : Bool → Prop) : ∀ (n k : Nat), n + k = l.length → K ((l.drop k).contains d) → L.ref8_Has_L1_R l d (n + 1) (k : Int) (K false) (fun r => K r)
  | 0, k, hn, hK => by
    unfold L.ref8_Has_L1_R L.ref8_Has_L1_b
    have e : k = l.length := by omega
    subst e
    rw [List.drop_length] at hK
    exact cond_f (by simp) hK
  | n + 1, k, hn, hK => by
    unfold L.ref8_Has_L1_R L.ref8_Has_L1_b
    have hlt : k < l.length := by omega
    have e2 : (k : Int).toNat = k := by omega
    have e6 : i64 ((k : Int) + 1) = ((k + 1 : Nat) : Int) := by rw [i64_id (n := (k : Int) + 1) (by omega) (by omega)]; omega
    refine cond_t (by simpa using hlt) ⟨⟨by omega, by omega⟩, ?_⟩
    rw [e2, e6, getD_lt hlt]
    rw [List.drop_eq_getElem_cons hlt, List.contains_cons] at hK
    by_cases he : l[k] = d
    · rw [show (l[k] == d) = true by simpa using he]
      rw [show (d == l[k]) = true by simpa using he.symm] at hK
      exact hK
    · rw [show (l[k] == d) = false by simpa using he]
      rw [show (d == l[k]) = false by simpa using fun h => he h.symm] at hK
      exact has1 l d hl K n (k + 1) (by omega) hK

theorem has_ok (l : List Int) (d : Int) (hl : l.length ≤ 12) (K : Bool → Prop) (hK : K (l.contains d)) : L.ref8_Has l d K := by
  constructor
  exact ⟨l.length + 1, has1 l d hl K l.length 0 (by omega) (by rw [List.drop_zero]; exact hK)⟩

theorem open1 (ws : List Win) (t d mn : Int) (hd : d = t / 1440) (ht : 0 ≤ t) (hm : mn = t - 1440 * d) (hl : ws.length ≤ 12) (K : Bool → Prop) : ∀ (n k : Nat), n + k = ws.length → K ((ws.drop k).any fun w => decide (mtd d w t)) →
    L.ref8_IsOpen_L1_R d mn ws (n + 1) (k : Int) (K false) (fun r => K r)
  | 0, k, hn, hK => by
    unfold L.ref8_IsOpen_L1_R L.ref8_IsOpen_L1_b
    have e : k = ws.length := by omega
    subst e
    rw [List.drop_length] at hK
    exact cond_f (by simp) hK
  | n + 1, k, hn, hK => by
    unfold L.ref8_IsOpen_L1_R L.ref8_IsOpen_L1_b
    have hlt : k < ws.length := by omega
    have e2 : (k : Int).toNat = k := by omega
    have e6 : i64 ((k : Int) + 1) = ((k + 1 : Nat) : Int) := by rw [i64_id (n := (k : Int) + 1) (by omega) (by omega)]; omega
    refine cond_t (by simpa using hlt) ⟨⟨by omega, by omega⟩, by decide, ?_⟩
    rw [e2, e6, getD_lt hlt]
    rw [List.drop_eq_getElem_cons hlt, List.any_cons] at hK
    have et : d.tmod 7 = d % 7 := Int.tmod_eq_emod_of_nonneg (by omega)
    have eb : (bif bif ws[k].1 == d.tmod 7 then decide (ws[k].2.1 ≤ mn) else false then decide (mn < ws[k].2.2) else false) = decide (mtd d ws[k] t) := by
      rw [et, band, band, Bool.eq_iff_iff]
      rw [decide_eq_true_iff (p := mtd d ws[k] t)]
      unfold mtd
      simp only [Bool.and_eq_true, beq_iff_eq, decide_eq_true_eq]
      constructor
      · rintro ⟨⟨q1, q2⟩, q3⟩
        exact ⟨q1, by omega, by omega⟩
      · rintro ⟨q1, q2, q3⟩
        exact ⟨⟨q1, by omega⟩, by omega⟩
    rw [eb]
    cases hb : decide (mtd d ws[k] t) with
    | true => rw [hb] at hK; exact hK
    | false => rw [hb] at hK; exact open1 ws t d mn hd ht hm hl K n (k + 1) (by omega) hK

theorem isopen_ok (ws : List Win) (hs : List Int) (hG : Good ws hs) (t : Int) (t0 : 0 ≤ t) (t1 : t ≤ 10000000) (K : Bool → Prop) (hK : K (op ws hs t)) : L.ref8_IsOpen ws hs t K := by
  constructor
  unfold L.ref8_IsOpen_B
  have e1 : t.tdiv 1440 = t / 1440 := Int.tdiv_eq_ediv_of_nonneg t0
  have e2 : i64 (t / 1440) = t / 1440 := i64_id (by omega) (by omega)
  rw [e1, e2]
  refine ⟨by decide, has_ok hs _ hG.hl _ ?_⟩
  unfold op at hK
  cases hc : hs.contains (t / 1440) with
  | true => rw [hc] at hK; exact hK
  | false =>
    rw [hc] at hK
    rw [i64_id (n := 1440 * (t / 1440)) (by omega) (by omega), i64_id (n := t - 1440 * (t / 1440)) (by omega) (by omega)]
    exact ⟨ws.length + 1, open1 ws t _ _ rfl t0 rfl hG.wl K ws.length 0 (by omega) (by rw [List.drop_zero]; exact hK)⟩

/-- The lengths of windows; what lies of them before a minute of the week. -/
def wlen : List Win → Int
  | [] => 0
  | w :: r => (w.2.2 - w.2.1) + wlen r
def wres (t : Int) : List Win → Int
  | [] => 0
  | w :: r => max 0 (min (w.2.2 - w.2.1) (t % 10080 - (1440 * w.1 + w.2.1))) + wres t r

theorem upTo_eq (ws : List Win) (t : Int) : upTo ws t = t / 10080 * wlen ws + wres t ws := by
  induction ws with
  | nil => simp [upTo, wlen, wres]
  | cons w r ih =>
    unfold upTo at *
    simp only [List.map_cons, List.foldr_cons, ih, upw, wlen, wres, Int.mul_add]
    omega

theorem wlen_le : ∀ (ws : List Win), (∀ w ∈ ws, wok w) → 0 ≤ wlen ws ∧ wlen ws ≤ 1440 * ws.length
  | [], _ => by simp [wlen]
  | w :: r, h => by
    have ih := wlen_le r (fun x hx => h x (List.mem_cons_of_mem _ hx))
    obtain ⟨o1, o2, o3, o4, o5⟩ := h w List.mem_cons_self
    simp only [wlen, List.length_cons]
    omega

theorem wres_le (t : Int) : ∀ (ws : List Win), (∀ w ∈ ws, wok w) → 0 ≤ wres t ws ∧ wres t ws ≤ 1440 * ws.length
  | [], _ => by simp [wres]
  | w :: r, h => by
    have ih := wres_le t r (fun x hx => h x (List.mem_cons_of_mem _ hx))
    obtain ⟨o1, o2, o3, o4, o5⟩ := h w List.mem_cons_self
    simp only [wres, List.length_cons]
    omega

theorem upto1 (ws : List Win) (hG : ∀ w ∈ ws, wok w) (hl : ws.length ≤ 12) (t : Int) (t0 : 0 ≤ t) (t1 : t ≤ 20000000) (K : Int → Int → Prop) : ∀ (n k : Nat) (wk rs : Int), n + k = ws.length → 0 ≤ wk → wk ≤ 1440 * k → 0 ≤ rs → rs ≤ 1440 * k →
    K (wk + wlen (ws.drop k)) (rs + wres t (ws.drop k)) → L.ref8_upTo_L1_R t ws (n + 1) wk rs (k : Int) (fun a b => K a b)
  | 0, k, wk, rs, hn, a1, a2, a3, a4, hK => by
    unfold L.ref8_upTo_L1_R L.ref8_upTo_L1_b
    have e : k = ws.length := by omega
    subst e
    rw [List.drop_length] at hK
    simp only [wlen, wres, Int.add_zero] at hK
    exact cond_f (by simp) hK
  | n + 1, k, wk, rs, hn, a1, a2, a3, a4, hK => by
    unfold L.ref8_upTo_L1_R L.ref8_upTo_L1_b
    have hlt : k < ws.length := by omega
    have e2 : (k : Int).toNat = k := by omega
    have e6 : i64 ((k : Int) + 1) = ((k + 1 : Nat) : Int) := by rw [i64_id (n := (k : Int) + 1) (by omega) (by omega)]; omega
    refine cond_t (by simpa using hlt) ⟨⟨by omega, by omega⟩, by decide, ?_⟩
    rw [e2, e6, getD_lt hlt]
    rw [List.drop_eq_getElem_cons hlt] at hK
    simp only [wlen, wres] at hK
    obtain ⟨o1, o2, o3, o4, o5⟩ := hG ws[k] (List.getElem_mem hlt)
    generalize ws[k] = w at *
    have et : t.tmod 10080 = t % 10080 := Int.tmod_eq_emod_of_nonneg t0
    have f1 : i64 (w.2.2 - w.2.1) = w.2.2 - w.2.1 := i64_id (by omega) (by omega)
    have f2 : i64 (1440 * w.1) = 1440 * w.1 := i64_id (by omega) (by omega)
    have f3 : i64 (1440 * w.1 + w.2.1) = 1440 * w.1 + w.2.1 := i64_id (by omega) (by omega)
    have f4 : i64 (t % 10080 - (1440 * w.1 + w.2.1)) = t % 10080 - (1440 * w.1 + w.2.1) := i64_id (by omega) (by omega)
    have f5 : amx 0 (amn (w.2.2 - w.2.1) (t % 10080 - (1440 * w.1 + w.2.1))) = max 0 (min (w.2.2 - w.2.1) (t % 10080 - (1440 * w.1 + w.2.1))) := by
      unfold amx amn
      split <;> split <;> omega
    rw [f1, f2, f3, et, f4, f5]
    obtain ⟨z, hz⟩ : ∃ z, z = max 0 (min (w.2.2 - w.2.1) (t % 10080 - (1440 * w.1 + w.2.1))) := ⟨_, rfl⟩
    have hz0 : 0 ≤ z ∧ z ≤ 1440 := by omega
    rw [← hz] at hK ⊢
    rw [i64_id (n := wk + (w.2.2 - w.2.1)) (by omega) (by omega), i64_id (n := rs + z) (by omega) (by omega)]
    refine upto1 ws hG hl t t0 t1 K n (k + 1) _ _ (by omega) (by omega) (by omega) (by omega) (by omega) ?_
    rw [show wk + (w.2.2 - w.2.1) + wlen (List.drop (k + 1) ws) = wk + (w.2.2 - w.2.1 + wlen (List.drop (k + 1) ws)) by omega, show rs + z + wres t (List.drop (k + 1) ws) = rs + (z + wres t (List.drop (k + 1) ws)) by omega]
    exact hK

theorem upto_bound {ws : List Win} {hs : List Int} (hG : Good ws hs) {t : Int} (t0 : 0 ≤ t) (t1 : t ≤ 20000000) : 0 ≤ upTo ws t ∧ upTo ws t ≤ 40000000 := by
  have h1 := wlen_le ws hG.ok.1
  have h2 := wres_le t ws hG.ok.1
  have h3 := hG.wl
  rw [upTo_eq]
  have h4 : 0 ≤ t / 10080 * wlen ws := Int.mul_nonneg (by omega) h1.1
  have h5 : t / 10080 * wlen ws ≤ 1985 * 17280 := Int.mul_le_mul (by omega) (by omega) h1.1 (by omega)
  omega

theorem upto_ok (ws : List Win) (hs hs' : List Int) (hG : Good ws hs) (t : Int) (t0 : 0 ≤ t) (t1 : t ≤ 20000000) (K : Int → Prop) (hK : K (upTo ws t)) : L.ref8_upTo ws hs' t K := by
  constructor
  unfold L.ref8_upTo_B
  have h3 := hG.wl
  refine ⟨ws.length + 1, upto1 ws hG.ok.1 h3 t t0 t1 (fun week rest => (10080 : Int) ≠ 0 ∧ K (i64 (i64 (i64 (t.tdiv 10080) * week) + rest))) ws.length 0 0 0 (by omega) (by omega) (by omega) (by omega) (by omega) ?_⟩
  refine ⟨by decide, ?_⟩
  rw [List.drop_zero, Int.zero_add, Int.zero_add]
  have h1 := wlen_le ws hG.ok.1
  have h2 := wres_le t ws hG.ok.1
  have h4 : 0 ≤ t / 10080 * wlen ws := Int.mul_nonneg (by omega) h1.1
  have h5 : t / 10080 * wlen ws ≤ 1985 * 17280 := Int.mul_le_mul (by omega) (by omega) h1.1 (by omega)
  rw [Int.tdiv_eq_ediv_of_nonneg t0, i64_id (n := t / 10080) (by omega) (by omega), i64_id (n := t / 10080 * wlen ws) (by omega) (by omega), i64_id (n := t / 10080 * wlen ws + wres t ws) (by omega) (by omega), ← upTo_eq]
  exact hK

theorem min1 (ws : List Win) (hs : List Int) (hG : Good ws hs) (t : Int) (t0 : 0 ≤ t) (t1 : t ≤ 20000000) (K : Int → Prop) : ∀ (n k : Nat) (z : Int), n + k = hs.length → -100000000 * ((k : Int) + 1) ≤ z → z ≤ 100000000 * ((k : Int) + 1) → K (z - less ws t (hs.drop k)) →
    L.ref8_Minutes_L1_R t ws hs (n + 1) z (k : Int) (fun a => K a)
  | 0, k, z, hn, a1, a2, hK => by
    unfold L.ref8_Minutes_L1_R L.ref8_Minutes_L1_b
    have e : k = hs.length := by omega
    subst e
    rw [List.drop_length] at hK
    simp only [less, Int.sub_zero] at hK
    exact cond_f (by simp) hK
  | n + 1, k, z, hn, a1, a2, hK => by
    unfold L.ref8_Minutes_L1_R L.ref8_Minutes_L1_b
    have hlt : k < hs.length := by omega
    have hl := hG.hl
    have e2 : (k : Int).toNat = k := by omega
    have e6 : i64 ((k : Int) + 1) = ((k + 1 : Nat) : Int) := by rw [i64_id (n := (k : Int) + 1) (by omega) (by omega)]; omega
    refine cond_t (by simpa using hlt) ⟨⟨by omega, by omega⟩, ?_⟩
    rw [e2, e6, getD_lt hlt]
    rw [List.drop_eq_getElem_cons hlt] at hK
    simp only [less] at hK
    obtain ⟨o1, o2⟩ := hG.hp hs[k] (List.getElem_mem hlt)
    generalize hs[k] = h at *
    have f1 : i64 (1440 * h) = 1440 * h := i64_id (by omega) (by omega)
    have f2 : i64 (1440 * h + 1440) = 1440 * h + 1440 := i64_id (by omega) (by omega)
    have f3 : amn t (1440 * h + 1440) = min t (1440 * h + 1440) := by unfold amn; split <;> omega
    rw [f1, f2, f3]
    by_cases hc : 1440 * h < t
    · refine cond_t (by simpa using hc) (upto_ok ws hs hs hG _ (by omega) (by omega) _ (upto_ok ws hs hs hG _ (by omega) (by omega) _ ?_))
      rw [if_pos hc] at hK
      have b1 := upto_bound hG (t := min t (1440 * h + 1440)) (by omega) (by omega)
      have b2 := upto_bound hG (t := 1440 * h) (by omega) (by omega)
      rw [i64_id (n := upTo ws (min t (1440 * h + 1440)) - upTo ws (1440 * h)) (by omega) (by omega), i64_id (by omega) (by omega)]
      refine min1 ws hs hG t t0 t1 K n (k + 1) _ (by omega) (by omega) (by omega) ?_
      rw [show z - (upTo ws (min t (1440 * h + 1440)) - upTo ws (1440 * h)) - less ws t (List.drop (k + 1) hs) = z - (upTo ws (min t (1440 * h + 1440)) - upTo ws (1440 * h) + less ws t (List.drop (k + 1) hs)) by omega]
      exact hK
    · refine cond_f (by simpa using hc) ?_
      rw [if_neg hc, Int.zero_add] at hK
      exact min1 ws hs hG t t0 t1 K n (k + 1) _ (by omega) (by omega) (by omega) hK

theorem minutes_ok (ws : List Win) (hs : List Int) (hG : Good ws hs) (t : Int) (t0 : 0 ≤ t) (t1 : t ≤ 20000000) (K : Int → Prop) (hK : K (cnt (op ws hs) t)) : L.ref8_Minutes ws hs t K := by
  constructor
  unfold L.ref8_Minutes_B
  refine upto_ok ws hs hs hG t t0 t1 _ ?_
  have b := upto_bound hG t0 t1
  refine ⟨hs.length + 1, min1 ws hs hG t t0 t1 K hs.length 0 _ (by omega) (by omega) (by omega) ?_⟩
  rw [List.drop_zero]
  rw [← minutes_cnt hG.ok (fun h hh => (hG.hp h hh).1) hG.hn t0] at hK
  exact hK

/-- What Reach answers. -/
def reachP (ws : List Win) (hs : List Int) (s n sp r : Int) : Prop :=
  (r = -1 ∧ cnt (op ws hs) (s + sp) < n) ∨ (s ≤ r ∧ r ≤ s + sp ∧ n ≤ cnt (op ws hs) r ∧ (r = s ∨ cnt (op ws hs) (r - 1) < n))

theorem reach1 (ws : List Win) (hs : List Int) (hG : Good ws hs) (n s : Int) (s0 : 0 ≤ s) (K : Int → Prop) : ∀ (fu : Nat) (lo hi : Int), s - 1 ≤ lo → lo < hi → hi ≤ 20000000 → hi - lo ≤ fu → n ≤ cnt (op ws hs) hi → (lo = s - 1 ∨ cnt (op ws hs) lo < n) →
    (∀ r, s ≤ r → r ≤ hi → n ≤ cnt (op ws hs) r → (r = s ∨ cnt (op ws hs) (r - 1) < n) → K r) → L.ref8_Reach_L1_R n ws hs (fu + 1) lo hi (fun r => K r)
  | fu, lo, hi, h1, h2, h3, h4, h5, h6, hK => by
    unfold L.ref8_Reach_L1_R L.ref8_Reach_L1_b
    rw [i64_id (n := hi - lo) (by omega) (by omega)]
    by_cases hc : hi - lo > 1
    · refine cond_t (by simpa using hc) ⟨by decide, ?_⟩
      have em : (lo + hi).tdiv 2 = (lo + hi) / 2 := Int.tdiv_eq_ediv_of_nonneg (by omega)
      rw [i64_id (n := lo + hi) (by omega) (by omega), em, i64_id (n := (lo + hi) / 2) (by omega) (by omega)]
      refine minutes_ok ws hs hG _ (by omega) (by omega) _ ?_
      cases fu with
      | zero => omega
      | succ fu =>
        by_cases hm : cnt (op ws hs) ((lo + hi) / 2) ≥ n
        · refine cond_t (by simpa using hm) ?_
          exact reach1 ws hs hG n s s0 K fu lo _ h1 (by omega) (by omega) (by omega) hm h6 (fun r r1 r2 r3 r4 => hK r r1 (by omega) r3 r4)
        · refine cond_f (by simpa using hm) ?_
          exact reach1 ws hs hG n s s0 K fu _ hi (by omega) (by omega) h3 (by omega) h5 (.inr (by omega)) (fun r r1 r2 r3 r4 => hK r r1 r2 r3 r4)
    · refine cond_f (by simpa using hc) ?_
      refine hK hi (by omega) (Int.le_refl _) h5 ?_
      have e : lo = hi - 1 := by omega
      rcases h6 with h6 | h6
      · exact .inl (by omega)
      · rw [e] at h6; exact .inr h6

theorem reach_ok (ws : List Win) (hs : List Int) (hG : Good ws hs) (s n sp : Int) (s0 : 0 ≤ s) (s1 : s ≤ 10000000) (p0 : 0 ≤ sp) (p1 : sp ≤ 600000) (K : Int → Prop) (hK : ∀ r, reachP ws hs s n sp r → K r) : L.ref8_Reach ws hs s n sp K := by
  constructor
  unfold L.ref8_Reach_B
  rw [i64_id (n := s + sp) (by omega) (by omega), i64_id (n := s - 1) (by omega) (by omega)]
  refine minutes_ok ws hs hG _ (by omega) (by omega) _ ?_
  by_cases hc : cnt (op ws hs) (s + sp) < n
  · exact cond_t (by simpa using hc) (hK _ (.inl ⟨rfl, hc⟩))
  · refine cond_f (by simpa using hc) ?_
    refine ⟨(sp + 1).toNat + 1, ?_⟩
    exact reach1 ws hs hG n s s0 K (sp + 1).toNat (s - 1) (s + sp) (by omega) (by omega) (by omega) (by omega) (by omega) (.inl rfl) (fun r r1 r2 r3 r4 => hK r (.inr ⟨r1, r2, r3, r4⟩))

end Ca
end Go.Proofs.Ytmnalcfclcgmkaa

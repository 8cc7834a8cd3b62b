/-
  An event of the reference, on the list of versions; it agrees with the event on the rings. Conditions: none.
-/
import Derived.Test.YtgedmbndmdphdaaRoN
namespace Go.Proofs.Ytgedmbndmdphdaa
open Eng
namespace Ro
open Can (okC okC_nat)

/-- Some version is active in a ring. -/
def atR (i : Nat) (t : List Ent) : Bool := t.any fun e => e.2.1 == i

theorem atR_iff {i : Nat} {t : List Ent} : atR i t = true ↔ ∃ e, e ∈ t ∧ e.2.1 = i := by
  unfold atR
  rw [List.any_eq_true]
  constructor
  · rintro ⟨e, h1, h2⟩
    exact ⟨e, h1, beq_iff_eq.1 h2⟩
  · rintro ⟨e, h1, h2⟩
    exact ⟨e, h1, beq_iff_eq.2 h2⟩

theorem atR_not {i : Nat} {t : List Ent} : atR i t = false ↔ ∀ e, e ∈ t → e.2.1 ≠ i := by
  rw [Bool.eq_false_iff, ne_eq, atR_iff]
  exact ⟨fun h e he hi => h ⟨e, he, hi⟩, fun h ⟨e, he, hi⟩ => h e he hi⟩

theorem act_at {n i : Nat} {t : List Ent} (hf : Falls n t) : (act i t).1 = 0 ↔ atR i t = false := by
  rcases act_mem (i := i) (t := t) with ⟨e, h1, h2, h3⟩ | ⟨h1, h2⟩
  · rw [h3]
    have := (hf.each e h1).1
    rw [atR_not]
    exact ⟨fun h => by simp only at h; omega, fun h => absurd h2 (h e h1)⟩
  · rw [h1]
    exact ⟨fun _ => atR_not.2 h2, fun _ => rfl⟩

theorem act_okC {n i : Nat} {t : List Ent} (hf : Falls n t) : okC (act i t).2.1 (act i t).2.2 := by
  rcases act_mem (i := i) (t := t) with ⟨e, h1, h2, h3⟩ | ⟨h1, h2⟩
  · rw [h3]
    exact (hf.each e h1).2.2
  · rw [h1]
    exact ⟨by simp, by simp, by simp⟩

/-- An event, on the list of versions. -/
def rst (P : Par) (n : Nat) (t : List Ent) (e : Ev) : Int × List Ent :=
  if fm n e.1 e.2.1 e.2.2.1 e.2.2.2.1 e.2.2.2.2 ≠ 0 then (fm n e.1 e.2.1 e.2.2.1 e.2.2.2.1 e.2.2.2.2, t)
  else if e.1 = 1 then
    if e.2.1 < 1 ∨ e.2.1 > 1000000000 then (3, t)
    else if atR 0 t = true then (15, t)
    else if t ≠ [] ∧ e.2.1 ≤ (t.map (·.1)).getD (t.length - 1) 0 then (16, t)
    else (0, t ++ [(e.2.1, (0, (0, 0)))])
  else if e.1 = 2 then
    if ¬ (0 ≤ e.2.2.2.1 ∧ 0 ≤ e.2.2.2.2 ∧ e.2.2.2.1 + e.2.2.2.2 ≤ 25) then (3, t)
    else if atR e.2.2.1.toNat t = false then (11, t)
    else if (act e.2.2.1.toNat t).2.1 + e.2.2.2.1 + ((act e.2.2.1.toNat t).2.2 + e.2.2.2.2) > 25 then (10, t)
    else if vd P ((act e.2.2.1.toNat t).2.1 + e.2.2.2.1) ((act e.2.2.1.toNat t).2.2 + e.2.2.2.2) = 3 then (0, t.filter fun x => !(x.1 == (act e.2.2.1.toNat t).1))
    else (0, upd e.2.2.1.toNat ((act e.2.2.1.toNat t).2.1 + e.2.2.2.1, (act e.2.2.1.toNat t).2.2 + e.2.2.2.2) t)
  else if e.1 = 3 then
    if atR e.2.2.1.toNat t = false ∨ vd P (act e.2.2.1.toNat t).2.1 (act e.2.2.1.toNat t).2.2 ≠ 2 then (11, t)
    else if e.2.2.1.toNat + 1 < n ∧ atR (e.2.2.1.toNat + 1) t = true then (15, t)
    else (0, adv e.2.2.1.toNat t)
  else if t.any (fun x => x.1 == e.2.1) = true then (0, t.filter fun x => !(x.1 == e.2.1)) else (6, t)

theorem set_bk {a : List Row} {i : Nat} (c : Int × Int) : (a.set i ((List.getD a i ([], (0, (0, 0)))).1, ((List.getD a i ([], (0, (0, 0)))).2.1, c))).map (bk (List.getD a i ([], (0, (0, 0)))).2.1) = a.map (bk (List.getD a i ([], (0, (0, 0)))).2.1) := by
  apply List.ext_getElem
  · simp
  · intro j hj1 hj2
    have hj : j < a.length := by simpa using hj2
    simp only [List.getElem_map, List.getElem_set]
    split
    · next e3 =>
      subst e3
      rw [show a[i] = (List.getD a i ([], (0, (0, 0)))) from (getD_get _ _ _ hj).symm]
      simp only [bk, beq_self_eq_true, cond_true]
    · rfl

theorem conf_zero {t : List Ent} (h : ∀ e, e ∈ t → e.2.1 ≠ 0) : conf 0 t = t.map (·.1) := by
  unfold conf
  rw [List.filter_eq_self.2 fun e he => by have := h e he; simp; omega]

theorem stp_start {P : Par} {n : Nat} (hn : 0 < n) {t : List Ent} (hf : Falls n t) {v : Int} :
    st (rows n t) v = ((if v < 1 ∨ v > 1000000000 then ((3, t) : Int × List Ent) else if atR 0 t = true then (15, t) else if t ≠ [] ∧ v ≤ (t.map (·.1)).getD (t.length - 1) 0 then (16, t) else (0, t ++ [(v, (0, (0, 0)))])).1,
      rows n (if v < 1 ∨ v > 1000000000 then ((3, t) : Int × List Ent) else if atR 0 t = true then (15, t) else if t ≠ [] ∧ v ≤ (t.map (·.1)).getD (t.length - 1) 0 then (16, t) else (0, t ++ [(v, (0, (0, 0)))])).2) ∧
    Falls n (if v < 1 ∨ v > 1000000000 then ((3, t) : Int × List Ent) else if atR 0 t = true then (15, t) else if t ≠ [] ∧ v ≤ (t.map (·.1)).getD (t.length - 1) 0 then (16, t) else (0, t ++ [(v, (0, (0, 0)))])).2 := by
  unfold st
  by_cases h1 : v < 1 ∨ v > 1000000000
  · simp only [if_pos h1]
    exact ⟨trivial, hf⟩
  simp only [if_neg h1]
  have hg : (rows n t).getD 0 ([], (0, (0, 0))) = (conf 0 t, act 0 t) := rows_get t hn
  rw [hg]
  by_cases h2 : atR 0 t = true
  · have : (act 0 t).1 ≠ 0 := fun h => by rw [act_at hf] at h; rw [h] at h2; cases h2
    simp only [if_pos h2, if_pos this]
    exact ⟨trivial, hf⟩
  · have h2' : atR 0 t = false := by simpa using h2
    have e0 : (act 0 t).1 = 0 := (act_at hf).2 h2'
    have h0 := atR_not.1 h2'
    have hc := conf_zero h0
    simp only [if_neg h2, if_neg (show ¬ (act 0 t).1 ≠ 0 from fun h => h e0), hc]
    have hne : t.map (·.1) ≠ [] ↔ t ≠ [] := by simp
    by_cases h3 : t ≠ [] ∧ v ≤ (t.map (·.1)).getD (t.length - 1) 0
    · have h3' : t.map (·.1) ≠ [] ∧ v ≤ (t.map (·.1)).getD ((t.map (·.1)).length - 1) 0 := ⟨hne.2 h3.1, by rw [List.length_map]; exact h3.2⟩
      simp only [if_pos h3, if_pos h3']
      exact ⟨trivial, hf⟩
    · have h3' : ¬ (t.map (·.1) ≠ [] ∧ v ≤ (t.map (·.1)).getD ((t.map (·.1)).length - 1) 0) := fun h => h3 ⟨hne.1 h.1, by have := h.2; rw [List.length_map] at this; exact this⟩
      simp only [if_neg h3, if_neg h3']
      refine ⟨?_, ?_⟩
      · rw [rows_start h0, hg, hc]
      · refine hf.start (by omega) h0 fun e he => ?_
        obtain ⟨i, hi, rfl⟩ := List.getElem_of_mem he
        have hl : ¬ v ≤ (t.map (·.1)).getD (t.length - 1) 0 := fun h => h3 ⟨List.ne_nil_of_mem he, h⟩
        rw [getD_get _ _ _ (by simp; omega), List.getElem_map] at hl
        by_cases ei : i = t.length - 1
        · subst ei
          omega
        · have := (List.pairwise_iff_getElem.1 hf.pw i (t.length - 1) hi (by omega) (by omega)).1
          omega

theorem stp_report {P : Par} {n r : Nat} (hr : r < n) {t : List Ent} (hf : Falls n t) {g b : Int} {R : Int × List Ent}
    (hR : R = if ¬ (0 ≤ g ∧ 0 ≤ b ∧ g + b ≤ 25) then (3, t) else if atR r t = false then (11, t) else if (act r t).2.1 + g + ((act r t).2.2 + b) > 25 then (10, t)
      else if vd P ((act r t).2.1 + g) ((act r t).2.2 + b) = 3 then (0, t.filter fun x => !(x.1 == (act r t).1)) else (0, upd r ((act r t).2.1 + g, (act r t).2.2 + b) t)) :
    rp P (rows n t) r g b = (R.1, rows n R.2) ∧ Falls n R.2 := by
  subst hR
  unfold rp
  by_cases h1 : ¬ (0 ≤ g ∧ 0 ≤ b ∧ g + b ≤ 25)
  · simp only [if_pos h1]
    exact ⟨trivial, hf⟩
  simp only [if_neg h1]
  have hg : (rows n t).getD r ([], (0, (0, 0))) = (conf r t, act r t) := rows_get t hr
  have hsb := set_bk (a := rows n t) (i := r) ((act r t).2.1 + g, (act r t).2.2 + b)
  rw [hg] at hsb ⊢
  by_cases h2 : atR r t = false
  · simp only [if_pos h2, if_pos ((act_at hf).2 h2)]
    exact ⟨trivial, hf⟩
  simp only [if_neg h2, if_neg (fun h => h2 ((act_at hf).1 h))]
  by_cases h3 : (act r t).2.1 + g + ((act r t).2.2 + b) > 25
  · simp only [if_pos h3]
    exact ⟨trivial, hf⟩
  simp only [if_neg h3]
  have hc := act_okC (i := r) hf
  unfold Can.okC at hc
  by_cases h4 : vd P ((act r t).2.1 + g) ((act r t).2.2 + b) = 3
  · simp only [if_pos h4]
    refine ⟨?_, hf.filter _⟩
    simp only [] at hsb
    rw [hsb, rows_del hf]
  · simp only [if_neg h4]
    have hx : ∃ e, e ∈ t ∧ e.2.1 = r := atR_iff.1 (by simpa using h2)
    refine ⟨?_, hf.upd (by unfold Can.okC; simp only; omega)⟩
    rw [rows_upd _ hx, hg]

theorem stp_adv {P : Par} {n r : Nat} (hr : r < n) {t : List Ent} (hf : Falls n t) {R : Int × List Ent}
    (hR : R = if atR r t = false ∨ vd P (act r t).2.1 (act r t).2.2 ≠ 2 then (11, t) else if r + 1 < n ∧ atR (r + 1) t = true then (15, t) else (0, adv r t)) :
    ad P (rows n t) r = (R.1, rows n R.2) ∧ Falls n R.2 := by
  subst hR
  unfold ad
  have hg : (rows n t).getD r ([], (0, (0, 0))) = (conf r t, act r t) := rows_get t hr
  rw [hg, rows_len]
  have e1 : ((act r t).1 = 0 ∨ vd P (act r t).2.1 (act r t).2.2 ≠ 2) ↔ (atR r t = false ∨ vd P (act r t).2.1 (act r t).2.2 ≠ 2) := by rw [act_at hf]
  by_cases h1 : atR r t = false ∨ vd P (act r t).2.1 (act r t).2.2 ≠ 2
  · simp only [if_pos h1, if_pos (e1.2 h1)]
    exact ⟨trivial, hf⟩
  simp only [if_neg h1, if_neg (fun h => h1 (e1.1 h))]
  have hx : ∃ e, e ∈ t ∧ e.2.1 = r := atR_iff.1 (by simpa using fun h => h1 (.inl h))
  by_cases hn : r + 1 < n
  · have hg1 : (rows n t).getD (r + 1) ([], (0, (0, 0))) = (conf (r + 1) t, act (r + 1) t) := rows_get t hn
    rw [hg1]
    by_cases h2 : atR (r + 1) t = true
    · have : (act (r + 1) t).1 ≠ 0 := fun h => by rw [act_at hf] at h; rw [h] at h2; cases h2
      simp only [if_pos (And.intro hn h2), if_pos (And.intro hn this)]
      exact ⟨trivial, hf⟩
    · have h2' : atR (r + 1) t = false := by simpa using h2
      have hz := (act_at hf).2 h2'
      simp only [if_neg (fun h : r + 1 < n ∧ atR (r + 1) t = true => h2 h.2), if_neg (fun h : r + 1 < n ∧ (act (r + 1) t).1 ≠ 0 => h.2 hz), if_pos hn]
      refine ⟨?_, hf.adv hr fun _ => atR_not.1 h2'⟩
      rw [rows_adv hr hf hx fun _ => atR_not.1 h2', if_pos hn]
  · simp only [if_neg (fun h : r + 1 < n ∧ atR (r + 1) t = true => hn h.1), if_neg (fun h : r + 1 < n ∧ ((rows n t).getD (r + 1) ([], (0, (0, 0)))).2.1 ≠ 0 => hn h.1), if_neg hn]
    refine ⟨?_, hf.adv hr fun h => absurd h hn⟩
    rw [rows_adv hr hf hx fun h => absurd h hn, if_neg hn]

theorem stp_rows {P : Par} {n : Nat} (hn : 0 < n) {t : List Ent} (hf : Falls n t) (e : Ev) : stp P (rows n t) e = ((rst P n t e).1, rows n (rst P n t e).2) ∧ Falls n (rst P n t e).2 := by
  unfold stp rst
  rw [rows_len]
  by_cases h1 : fm n e.1 e.2.1 e.2.2.1 e.2.2.2.1 e.2.2.2.2 ≠ 0
  · simp only [if_pos h1]
    exact ⟨trivial, hf⟩
  simp only [if_neg h1]
  obtain ⟨f1, f2, f3, f4⟩ := fm_zero (show fm n e.1 e.2.1 e.2.2.1 e.2.2.2.1 e.2.2.2.2 = 0 by omega)
  by_cases h2 : e.1 = 1
  · simp only [if_pos h2]
    exact stp_start (P := P) hn hf
  simp only [if_neg h2]
  by_cases h3 : e.1 = 2
  · simp only [if_pos h3]
    exact stp_report (by omega) hf rfl
  simp only [if_neg h3]
  by_cases h4 : e.1 = 3
  · simp only [if_pos h4]
    exact stp_adv (by omega) hf rfl
  simp only [if_neg h4]
  rw [any_kr hn hf]
  by_cases h5 : t.any (fun x => x.1 == e.2.1) = true
  · simp only [if_pos h5]
    exact ⟨by rw [rows_del hf], hf.filter _⟩
  · simp only [if_neg h5]
    exact ⟨trivial, hf⟩

end Ro
end Go.Proofs.Ytgedmbndmdphdaa

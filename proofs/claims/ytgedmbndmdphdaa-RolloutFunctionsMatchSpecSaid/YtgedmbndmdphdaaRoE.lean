/-
  A rollout as a list of versions, and its rings. Conditions: none.
-/
import Derived.Test.YtgedmbndmdphdaaRoG
namespace Go.Proofs.Ytgedmbndmdphdaa
open Eng
namespace Ro
open Can (okC okC_nat)

/-- A version, the ring that it has reached, its samples there. -/
abbrev Ent := Int × (Nat × (Int × Int))

def conf (i : Nat) (t : List Ent) : List Int := (t.filter fun e => decide (i < e.2.1)).map (·.1)

def act (i : Nat) : List Ent → Int × (Int × Int)
  | [] => (0, (0, 0))
  | e :: t => if e.2.1 = i then (e.1, e.2.2) else act i t

def rowOf (t : List Ent) (i : Nat) : Row := (conf i t, act i t)

/-- The rings. -/
def rows (n : Nat) (t : List Ent) : List Row := (List.range n).map (rowOf t)

theorem rows_len (n : Nat) (t : List Ent) : (rows n t).length = n := by simp [rows]

theorem rows_get {n : Nat} (t : List Ent) {i : Nat} (h : i < n) : (rows n t).getD i ([], (0, (0, 0))) = rowOf t i := by
  rw [getD_get _ _ _ (by rw [rows_len]; exact h)]
  simp [rows]

/-- Versions rise, and the rings that they have reached fall, till they are through. -/
structure Falls (n : Nat) (t : List Ent) : Prop where
  pw : t.Pairwise fun e e' => e.1 < e'.1 ∧ (e'.2.1 < e.2.1 ∨ (e.2.1 = n ∧ e'.2.1 = n))
  each : ∀ e, e ∈ t → 0 < e.1 ∧ e.2.1 ≤ n ∧ okC e.2.2.1 e.2.2.2

theorem Falls.tail {n : Nat} {e : Ent} {t : List Ent} (h : Falls n (e :: t)) : Falls n t := ⟨(List.pairwise_cons.1 h.pw).2, fun x hx => h.each x (List.mem_cons_of_mem _ hx)⟩

theorem Falls.filter {n : Nat} {t : List Ent} (h : Falls n t) (f : Ent → Bool) : Falls n (t.filter f) := ⟨h.pw.filter _, fun x hx => h.each x (List.mem_filter.1 hx).1⟩

theorem act_none {n : Nat} {i : Nat} (hi : i < n) {e : Ent} {t : List Ent} (h : Falls n (e :: t)) (he : e.2.1 = i) : act i t = (0, (0, 0)) := by
  have hp := (List.pairwise_cons.1 h.pw).1
  clear h
  induction t with
  | nil => rfl
  | cons x t ih =>
    unfold act
    have := (hp x (by simp)).2
    rw [if_neg (by omega)]
    exact ih fun y hy => hp y (List.mem_cons_of_mem _ hy)

theorem act_mem {i : Nat} {t : List Ent} : (∃ e, e ∈ t ∧ e.2.1 = i ∧ act i t = (e.1, e.2.2)) ∨ (act i t = (0, (0, 0)) ∧ ∀ e, e ∈ t → e.2.1 ≠ i) := by
  induction t with
  | nil => exact .inr ⟨rfl, fun e h => absurd h List.not_mem_nil⟩
  | cons x t ih =>
    unfold act
    by_cases hx : x.2.1 = i
    · rw [if_pos hx]
      exact .inl ⟨x, by simp, hx, rfl⟩
    · rw [if_neg hx]
      rcases ih with ⟨e, h1, h2, h3⟩ | ⟨h1, h2⟩
      · exact .inl ⟨e, List.mem_cons_of_mem _ h1, h2, h3⟩
      · refine .inr ⟨h1, fun e he => ?_⟩
        rcases List.mem_cons.1 he with rfl | he
        · exact hx
        · exact h2 e he

theorem conf_del (i : Nat) (v : Int) (t : List Ent) : conf i (t.filter fun e => !(e.1 == v)) = del v (conf i t) := by
  unfold conf del
  rw [List.filter_map, List.filter_filter, List.filter_filter]
  congr 1
  apply List.filter_congr
  intro e _
  simp [Bool.and_comm]

theorem act_del {n : Nat} {i : Nat} (hi : i < n) {v : Int} : ∀ {t : List Ent}, Falls n t → act i (t.filter fun e => !(e.1 == v)) = bif (act i t).1 == v then (0, (0, 0)) else act i t
  | [], _ => by
    simp only [List.filter_nil, act]
    cases (0 : Int) == v <;> rfl
  | e :: t, h => by
    have ih := act_del hi (v := v) h.tail
    rw [List.filter_cons]
    by_cases hv : e.1 = v
    · rw [if_neg (by simp [hv]), ih]
      conv => rhs; unfold act
      by_cases he : e.2.1 = i
      · rw [if_pos he, act_none hi h he]
        simp only [hv, beq_self_eq_true, cond_true]
        cases (0 : Int) == v <;> rfl
      · rw [if_neg he]
    · rw [if_pos (by simp [hv])]
      unfold act
      by_cases he : e.2.1 = i
      · rw [if_pos he, if_pos he]
        show _ = bif e.1 == v then _ else _
        rw [beq_eq_false_iff_ne.2 hv]
        rfl
      · rw [if_neg he, if_neg he]
        exact ih

/-- A version goes. -/
theorem rows_del {n : Nat} {v : Int} {t : List Ent} (h : Falls n t) : rows n (t.filter fun e => !(e.1 == v)) = (rows n t).map (bk v) := by
  unfold rows
  rw [List.map_map]
  apply List.map_congr_left
  intro i hi
  have hi' : i < n := by simpa using hi
  simp only [rowOf, Function.comp, bk, conf_del, act_del hi' h]

theorem conf_append (i : Nat) (t u : List Ent) : conf i (t ++ u) = conf i t ++ conf i u := by simp [conf]

theorem act_append (i : Nat) (x : Ent) : ∀ t : List Ent, (∀ e, e ∈ t → e.2.1 ≠ i) → act i (t ++ [x]) = if x.2.1 = i then (x.1, x.2.2) else (0, (0, 0))
  | [], _ => rfl
  | e :: t, h => by
    show (if e.2.1 = i then _ else act i (t ++ [x])) = _
    rw [if_neg (h e (by simp))]
    exact act_append i x t fun y hy => h y (List.mem_cons_of_mem _ hy)

theorem act_append_ne (i : Nat) (x : Ent) (hx : x.2.1 ≠ i) : ∀ t : List Ent, act i (t ++ [x]) = act i t
  | [] => if_neg hx
  | e :: t => by
    show (if e.2.1 = i then _ else act i (t ++ [x])) = if e.2.1 = i then _ else act i t
    rw [act_append_ne i x hx t]

theorem rows_ext {n : Nat} {a : List Row} (t : List Ent) (hl : a.length = n) (h : ∀ i, i < n → a.getD i ([], (0, (0, 0))) = rowOf t i) : rows n t = a := by
  apply List.ext_getElem
  · rw [rows_len, hl]
  · intro i h1 h2
    rw [rows_len] at h1
    rw [← getD_get _ _ ([], (0, (0, 0))) h2, h i h1]
    simp [rows]

/-- A version starts. -/
theorem rows_start {n : Nat} {v : Int} {t : List Ent} (h0 : ∀ e, e ∈ t → e.2.1 ≠ 0) : rows n (t ++ [(v, (0, (0, 0)))]) = (rows n t).set 0 (((rows n t).getD 0 ([], (0, (0, 0)))).1, (v, (0, 0))) := by
  apply rows_ext
  · simp [rows_len]
  · intro i hi
    have hc : conf i (t ++ [(v, (0, (0, 0)))]) = conf i t := by rw [conf_append]; simp [conf]
    by_cases e : 0 = i
    · subst e
      rw [getD_set_same _ _ _ _ (by rw [rows_len]; exact hi), rows_get t hi]
      simp only [rowOf, hc, act_append 0 _ t h0]
      rfl
    · rw [getD_set_other _ _ _ _ _ e, rows_get t hi]
      simp only [rowOf, hc, act_append_ne i (v, (0, (0, 0))) e t]

/-- Samples of the one that is active in a ring. -/
def upd (r : Nat) (c : Int × Int) (t : List Ent) : List Ent := t.map fun e => if e.2.1 = r then (e.1, (e.2.1, c)) else e

theorem conf_upd (i r : Nat) (c : Int × Int) : ∀ t : List Ent, conf i (upd r c t) = conf i t
  | [] => rfl
  | e :: t => by
    have ih := conf_upd i r c t
    unfold conf upd at *
    rw [List.map_cons, List.filter_cons, List.filter_cons]
    by_cases he : e.2.1 = r
    · rw [if_pos he]
      by_cases hi : i < e.2.1
      · rw [if_pos (by simpa using hi), if_pos (by simpa using hi), List.map_cons, List.map_cons, ih]
      · rw [if_neg (by simpa using hi), if_neg (by simpa using hi), ih]
    · rw [if_neg he]
      by_cases hi : i < e.2.1
      · rw [if_pos (by simpa using hi), if_pos (by simpa using hi), List.map_cons, List.map_cons, ih]
      · rw [if_neg (by simpa using hi), if_neg (by simpa using hi), ih]

theorem act_upd_cons (i r : Nat) (c : Int × Int) (e : Ent) (t : List Ent) : act i (upd r c (e :: t)) = if e.2.1 = i then (if e.2.1 = r then (e.1, c) else (e.1, e.2.2)) else act i (upd r c t) := by
  unfold upd
  rw [List.map_cons]
  by_cases he : e.2.1 = r
  · rw [if_pos he, if_pos he]
    rfl
  · rw [if_neg he, if_neg he]
    rfl

theorem act_upd_ne (i r : Nat) (c : Int × Int) (h : r ≠ i) : ∀ t : List Ent, act i (upd r c t) = act i t
  | [] => rfl
  | e :: t => by
    rw [act_upd_cons, act_upd_ne i r c h t]
    show _ = if e.2.1 = i then (e.1, e.2.2) else act i t
    by_cases hi : e.2.1 = i
    · rw [if_pos hi, if_pos hi, if_neg (by omega)]
    · rw [if_neg hi, if_neg hi]

theorem act_upd (r : Nat) (c : Int × Int) : ∀ t : List Ent, (∃ e, e ∈ t ∧ e.2.1 = r) → act r (upd r c t) = ((act r t).1, c)
  | [], h => by obtain ⟨e, h, _⟩ := h; cases h
  | e :: t, h => by
    rw [act_upd_cons]
    show _ = ((if e.2.1 = r then (e.1, e.2.2) else act r t).1, c)
    by_cases he : e.2.1 = r
    · rw [if_pos he, if_pos he, if_pos he]
    · rw [if_neg he, if_neg he]
      obtain ⟨x, hx, hr⟩ := h
      rcases List.mem_cons.1 hx with rfl | hx
      · exact absurd hr he
      · exact act_upd r c t ⟨x, hx, hr⟩

theorem rows_upd {n r : Nat} (c : Int × Int) {t : List Ent} (h : ∃ e, e ∈ t ∧ e.2.1 = r) : rows n (upd r c t) = (rows n t).set r (((rows n t).getD r ([], (0, (0, 0)))).1, (((rows n t).getD r ([], (0, (0, 0)))).2.1, c)) := by
  apply rows_ext
  · simp [rows_len]
  · intro i hi
    by_cases e : r = i
    · subst e
      rw [getD_set_same _ _ _ _ (by rw [rows_len]; exact hi), rows_get t hi]
      simp only [rowOf, conf_upd, act_upd r c t h]
    · rw [getD_set_other _ _ _ _ _ e, rows_get t hi]
      simp only [rowOf, conf_upd, act_upd_ne i r c e t]

end Ro
end Go.Proofs.Ytgedmbndmdphdaa

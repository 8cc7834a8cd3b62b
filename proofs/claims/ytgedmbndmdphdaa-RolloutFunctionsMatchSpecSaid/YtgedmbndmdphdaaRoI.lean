/-
  A version moves on to the next ring, in the list of versions and in the rings. Conditions: none.
-/
import Derived.Test.YtgedmbndmdphdaaRoE
namespace Go.Proofs.Ytgedmbndmdphdaa
open Eng
namespace Ro
open Can (okC okC_nat)

/-- The one that is active in a ring moves on. -/
def adv (r : Nat) (t : List Ent) : List Ent := t.map fun e => if e.2.1 = r then (e.1, (r + 1, (0, 0))) else e

theorem adv_cons (r : Nat) (e : Ent) (t : List Ent) : adv r (e :: t) = (if e.2.1 = r then (e.1, (r + 1, (0, 0))) else e) :: adv r t := rfl

theorem conf_cons (i : Nat) (e : Ent) (t : List Ent) : conf i (e :: t) = if i < e.2.1 then e.1 :: conf i t else conf i t := by
  unfold conf
  rw [List.filter_cons]
  by_cases h : i < e.2.1
  · rw [if_pos (by simpa using h), if_pos h]
    rfl
  · rw [if_neg (by simpa using h), if_neg h]

theorem act_cons (i : Nat) (e : Ent) (t : List Ent) : act i (e :: t) = if e.2.1 = i then (e.1, e.2.2) else act i t := rfl

theorem adv_none {r : Nat} : ∀ {t : List Ent}, (∀ e, e ∈ t → e.2.1 ≠ r) → adv r t = t
  | [], _ => rfl
  | e :: t, h => by rw [adv_cons, if_neg (h e (by simp)), adv_none fun x hx => h x (List.mem_cons_of_mem _ hx)]

theorem conf_none {i : Nat} : ∀ {t : List Ent}, (∀ e, e ∈ t → ¬ i < e.2.1) → conf i t = []
  | [], _ => rfl
  | e :: t, h => by rw [conf_cons, if_neg (h e (by simp)), conf_none fun x hx => h x (List.mem_cons_of_mem _ hx)]

theorem conf_adv_ne {i r : Nat} (h : i ≠ r) : ∀ t : List Ent, conf i (adv r t) = conf i t
  | [] => rfl
  | e :: t => by
    rw [adv_cons, conf_cons, conf_cons, conf_adv_ne h t]
    by_cases he : e.2.1 = r
    · rw [if_pos he]
      by_cases hi : i < e.2.1
      · rw [if_pos hi, if_pos (show i < r + 1 by omega)]
      · rw [if_neg hi, if_neg (show ¬ i < r + 1 by omega)]
    · rw [if_neg he]

theorem conf_adv {n r : Nat} (hr : r < n) : ∀ {t : List Ent}, Falls n t → (∃ e, e ∈ t ∧ e.2.1 = r) → conf r (adv r t) = conf r t ++ [(act r t).1]
  | [], _, h => by obtain ⟨e, h, _⟩ := h; cases h
  | e :: t, hf, h => by
    have hp := (List.pairwise_cons.1 hf.pw).1
    rw [adv_cons, conf_cons, conf_cons, act_cons]
    by_cases he : e.2.1 = r
    · have hlt : ∀ x, x ∈ t → x.2.1 < r := fun x hx => by
        have := (hp x hx).2
        omega
      rw [if_pos he, if_pos he, if_pos (show r < r + 1 by omega), if_neg (show ¬ r < e.2.1 by omega), adv_none (fun x hx => by have := hlt x hx; omega), conf_none (fun x hx => by have := hlt x hx; omega)]
      rfl
    · obtain ⟨x, hx, hxr⟩ := h
      rcases List.mem_cons.1 hx with rfl | hx
      · exact absurd hxr he
      · have := (hp x hx).2
        rw [if_neg he, if_pos (show r < e.2.1 by omega), if_pos (show r < e.2.1 by omega), if_neg he, conf_adv hr hf.tail ⟨x, hx, hxr⟩]
        rfl

theorem act_adv_ne {i r : Nat} (h : i ≠ r) (h2 : i ≠ r + 1) : ∀ t : List Ent, act i (adv r t) = act i t
  | [] => rfl
  | e :: t => by
    rw [adv_cons, act_cons, act_cons, act_adv_ne h h2 t]
    by_cases he : e.2.1 = r
    · rw [if_pos he, if_neg (show ¬ r + 1 = i by omega), if_neg (show ¬ e.2.1 = i by omega)]
    · rw [if_neg he]

theorem act_adv_none {r : Nat} : ∀ t : List Ent, act r (adv r t) = (0, (0, 0))
  | [] => rfl
  | e :: t => by
    rw [adv_cons, act_cons, act_adv_none t]
    by_cases he : e.2.1 = r
    · rw [if_pos he, if_neg (show ¬ r + 1 = r by omega)]
    · rw [if_neg he, if_neg he]

theorem act_adv_next {r : Nat} : ∀ {t : List Ent}, (∃ e, e ∈ t ∧ e.2.1 = r) → (∀ e, e ∈ t → e.2.1 ≠ r + 1) → act (r + 1) (adv r t) = ((act r t).1, (0, 0))
  | [], h, _ => by obtain ⟨e, h, _⟩ := h; cases h
  | e :: t, h, hn => by
    rw [adv_cons, act_cons, act_cons]
    by_cases he : e.2.1 = r
    · rw [if_pos he, if_pos rfl, if_pos he]
    · obtain ⟨x, hx, hxr⟩ := h
      rcases List.mem_cons.1 hx with rfl | hx
      · exact absurd hxr he
      · rw [if_neg he, if_neg (hn e (by simp)), if_neg he, act_adv_next ⟨x, hx, hxr⟩ fun y hy => hn y (List.mem_cons_of_mem _ hy)]

theorem rows_adv {n r : Nat} (hr : r < n) {t : List Ent} (hf : Falls n t) (h : ∃ e, e ∈ t ∧ e.2.1 = r) (hn : r + 1 < n → ∀ e, e ∈ t → e.2.1 ≠ r + 1) :
    rows n (adv r t) = if r + 1 < n then ((rows n t).set r (conf r t ++ [(act r t).1], (0, (0, 0)))).set (r + 1) (conf (r + 1) t, ((act r t).1, (0, 0))) else (rows n t).set r (conf r t ++ [(act r t).1], (0, (0, 0))) := by
  have at_r : rowOf (adv r t) r = (conf r t ++ [(act r t).1], (0, (0, 0))) := by simp only [rowOf, conf_adv hr hf h, act_adv_none]
  have other : ∀ i, i ≠ r → i ≠ r + 1 → rowOf (adv r t) i = rowOf t i := fun i h1 h2 => by simp only [rowOf, conf_adv_ne h1, act_adv_ne h1 h2]
  by_cases hn1 : r + 1 < n
  · rw [if_pos hn1]
    have at_n : rowOf (adv r t) (r + 1) = (conf (r + 1) t, ((act r t).1, (0, 0))) := by simp only [rowOf, conf_adv_ne (show r + 1 ≠ r by omega), act_adv_next h (hn hn1)]
    apply rows_ext
    · simp [rows_len]
    · intro i hi
      by_cases e : r + 1 = i
      · subst e
        rw [getD_set_same _ _ _ _ (by simp [rows_len]; exact hi), at_n]
      · rw [getD_set_other _ _ _ _ _ e]
        by_cases e2 : r = i
        · subst e2
          rw [getD_set_same _ _ _ _ (by rw [rows_len]; exact hi), at_r]
        · rw [getD_set_other _ _ _ _ _ e2, rows_get t hi, other i (by omega) (by omega)]
  · rw [if_neg hn1]
    apply rows_ext
    · simp [rows_len]
    · intro i hi
      by_cases e2 : r = i
      · subst e2
        rw [getD_set_same _ _ _ _ (by rw [rows_len]; exact hi), at_r]
      · rw [getD_set_other _ _ _ _ _ e2, rows_get t hi, other i (by omega) (by omega)]

end Ro
end Go.Proofs.Ytgedmbndmdphdaa

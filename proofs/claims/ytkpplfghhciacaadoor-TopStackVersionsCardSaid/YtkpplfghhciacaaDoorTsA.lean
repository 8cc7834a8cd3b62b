/-
  The longest common part of two texts, and how far a patched text lies from its base: plain lists. Conditions: none.
-/
import Derived.Test.YtkpplfghhciacaaDoorLaW
set_option linter.unusedVariables false
set_option linter.unusedSimpArgs false
namespace Go.Proofs.YtkpplfghhciacaaDoor
open Eng
namespace Tp

def eqb (x y : ByteArray) : Bool := x.toList == y.toList
theorem eqb_refl (x : ByteArray) : eqb x x = true := by unfold eqb; simp

def lcs : Txt → Txt → Nat
  | [], _ => 0
  | _ :: _, [] => 0
  | x :: a, y :: b => if eqb x y = true then lcs a b + 1 else max (lcs a (y :: b)) (lcs (x :: a) b)
termination_by a b => a.length + b.length

theorem lcs_nil (a : Txt) : lcs a [] = 0 := by cases a <;> rw [lcs]
theorem nil_lcs (a : Txt) : lcs [] a = 0 := by rw [lcs]

theorem lcs_M (a b : Txt) : (∀ x, lcs a b ≤ lcs (x :: a) b ∧ lcs (x :: a) b ≤ lcs a b + 1) ∧ (∀ y, lcs a b ≤ lcs a (y :: b) ∧ lcs a (y :: b) ≤ lcs a b + 1) := by
  constructor
  · intro x
    match b with
    | [] => simp [lcs_nil]
    | y :: b =>
      have h := lcs_M a b
      have h1 := h.1 x
      have h2 := h.2 y
      by_cases e : eqb x y = true
      · rw [lcs.eq_3, if_pos e]; omega
      · rw [lcs.eq_3, if_neg e]; omega
  · intro y
    match a with
    | [] => simp [nil_lcs]
    | x :: a =>
      have h := lcs_M a b
      have h1 := h.1 x
      have h2 := h.2 y
      by_cases e : eqb x y = true
      · rw [lcs.eq_3, if_pos e]; omega
      · rw [lcs.eq_3, if_neg e]; omega
termination_by a.length + b.length

/-- How many lines are to be deleted and inserted. -/
def far (a b : Txt) : Int := (a.length : Int) + b.length - 2 * (lcs a b : Nat)

theorem far_same (a b : Txt) : ∀ p : Txt, far (p ++ a) (p ++ b) = far a b
  | [] => rfl
  | x :: p => by
    rw [← far_same a b p]
    unfold far
    rw [List.cons_append, List.cons_append, lcs.eq_3, if_pos (eqb_refl x)]
    simp only [List.length_cons]
    omega

theorem far_self (a : Txt) : far a a = 0 := by
  have := far_same [] [] a
  rw [List.append_nil] at this
  rw [this]
  unfold far
  rw [nil_lcs]
  rfl

theorem lcs_left (a b : Txt) : ∀ o : Txt, lcs a b ≤ lcs (o ++ a) b
  | [] => Nat.le_refl _
  | x :: o => Nat.le_trans (lcs_left a b o) ((lcs_M (o ++ a) b).1 x).1

theorem lcs_right (a b : Txt) : ∀ o : Txt, lcs a b ≤ lcs a (o ++ b)
  | [] => Nat.le_refl _
  | x :: o => Nat.le_trans (lcs_right a b o) ((lcs_M a (o ++ b)).2 x).1

theorem far_diff (a b o n : Txt) : far (o ++ a) (n ++ b) ≤ o.length + n.length + far a b := by
  have h1 := lcs_left a b o
  have h2 := lcs_right (o ++ a) b n
  unfold far
  rw [List.length_append, List.length_append]
  omega

theorem raw_app {text : Txt} : ∀ (p : List Hunk) (low : Int) (out : Txt), rawL text low p out = out ++ rawL text low p []
  | [], low, out => by rw [rawL, rawL]; simp
  | h :: r, low, out => by
    rw [rawL, rawL, raw_app r _ (_ ++ _), raw_app r _ (([] ++ _) ++ _)]
    simp

theorem run_le {text : Txt} : ∀ {p : List Hunk} {low : Int}, Run text low p → 0 ≤ low ∧ low ≤ text.length
  | [], _, h => h
  | x :: p, low, h => by
    obtain ⟨h1, h2, h3, _⟩ := h
    exact ⟨h1, by omega⟩

def cst : List Hunk → Nat
  | [] => 0
  | h :: r => h.2.1.length + h.2.2.length + cst r

theorem raw_far {text : Txt} : ∀ (p : List Hunk) (low : Int), Run text low p → far (text.drop low.toNat) (rawL text low p []) ≤ (cst p : Nat)
  | [], low, h => by
    rw [rawL, List.nil_append, List.take_length, far_self, cst]
    exact Int.le_refl _
  | h :: r, low, hr => by
    obtain ⟨h1, h2, h3, h4, h5, h6, h7⟩ := hr
    have he := run_le h7
    have ih := raw_far r _ h7
    rw [rawL, raw_app, List.nil_append, cst]
    have e1 : text.drop low.toNat = (text.take h.1.toNat).drop low.toNat ++ ((text.take (h.1 + h.2.1.length).toNat).drop h.1.toNat ++ text.drop (h.1 + h.2.1.length).toNat) := by
      have a1 : text.drop low.toNat = (text.take h.1.toNat).drop low.toNat ++ text.drop h.1.toNat := by
        conv => lhs; rw [← List.take_append_drop h.1.toNat text]
        rw [List.drop_append_of_le_length (by rw [List.length_take]; omega)]
      have a2 : text.drop h.1.toNat = (text.take (h.1 + h.2.1.length).toNat).drop h.1.toNat ++ text.drop (h.1 + h.2.1.length).toNat := by
        conv => lhs; rw [← List.take_append_drop (h.1 + h.2.1.length).toNat text]
        rw [List.drop_append_of_le_length (by rw [List.length_take]; omega)]
      rw [a1, ← a2]
    have el : ((text.take (h.1 + h.2.1.length).toNat).drop h.1.toNat).length = h.2.1.length := by
      rw [List.length_drop, List.length_take]; omega
    rw [e1, List.append_assoc, far_same]
    refine Int.le_trans (far_diff _ _ _ _) ?_
    rw [el]
    omega

/-- Texts whose lines are lines. -/
def lnOk (s : ByteArray) : Prop := s.size ≤ 80 ∧ La.idx_R s 10 < 0

theorem linL_iff : ∀ (l : Txt) (i : Nat), linL i l = (0, 0) ↔ ∀ s, s ∈ l → lnOk s
  | [], i => by simp [linL]
  | s :: l, i => by
    rw [linL]
    unfold lnOk
    by_cases c : 80 < s.size
    · rw [if_pos c]
      constructor
      · intro h; simp at h
      · intro h; have := (h s (by simp)).1; omega
    · rw [if_neg c]
      by_cases d : 0 ≤ La.idx_R s 10
      · rw [if_pos d]
        constructor
        · intro h; simp at h
        · intro h; have := (h s (by simp)).2; omega
      · rw [if_neg d, linL_iff l (i + 1)]
        constructor
        · intro h x hx
          rcases List.mem_cons.1 hx with rfl | hx
          · exact ⟨by omega, by omega⟩
          · exact h x hx
        · exact fun h x hx => h x (by simp [hx])

theorem lin_iff (l : Txt) : lin l = (0, 0) ↔ l.length ≤ 120 ∧ ∀ s, s ∈ l → lnOk s := by
  unfold lin
  by_cases c : 120 < l.length
  · rw [if_pos c]
    constructor
    · intro h; simp at h
    · intro h; omega
  · rw [if_neg c, linL_iff]
    exact ⟨fun h => ⟨by omega, h⟩, fun h => h.2⟩

theorem raw_lines {text : Txt} (ht : ∀ s, s ∈ text → lnOk s) : ∀ (p : List Hunk) (low : Int) (out : Txt), (∀ h, h ∈ p → ∀ s, s ∈ h.2.2 → lnOk s) → (∀ s, s ∈ out → lnOk s) → ∀ s, s ∈ rawL text low p out → lnOk s
  | [], low, out, hp, ho, s, hs => by
    rw [rawL] at hs
    rcases List.mem_append.1 hs with hs | hs
    · exact ho s hs
    · exact ht s (List.mem_of_mem_take (List.mem_of_mem_drop hs))
  | h :: r, low, out, hp, ho, s, hs => by
    rw [rawL] at hs
    refine raw_lines ht r _ _ (fun x hx => hp x (by simp [hx])) (fun s hs => ?_) s hs
    rcases List.mem_append.1 hs with hs | hs
    · rcases List.mem_append.1 hs with hs | hs
      · exact ho s hs
      · exact ht s (List.mem_of_mem_take (List.mem_of_mem_drop hs))
    · exact hp h (by simp) s hs

theorem hk_new {h : Hunk} {e : Int} (hz : hk h e = 0) : lin h.2.2 = (0, 0) := by
  unfold hk at hz
  by_cases c1 : h.1 < 0 ∨ 120 < h.1
  · rw [if_pos c1] at hz; omega
  · rw [if_neg c1] at hz
    by_cases c2 : lin h.2.1 ≠ (0, 0)
    · rw [if_pos c2] at hz
      exact absurd (lin_zero _ hz) c2
    · rw [if_neg c2] at hz
      by_cases c3 : lin h.2.2 ≠ (0, 0)
      · rw [if_pos c3] at hz
        exact absurd (lin_zero _ hz) c3
      · exact Classical.not_not.1 c3

theorem tpL_new : ∀ (p : List Hunk) (e : Int) (i : Nat), tpL e i p = (0, 0) → ∀ h, h ∈ p → lin h.2.2 = (0, 0)
  | [], e, i, hz, h, hm => by cases hm
  | a :: r, e, i, hz, h, hm => by
    rw [tpL] at hz
    by_cases c : hk a e ≠ 0
    · rw [if_pos c] at hz
      simp at hz
      exact absurd hz.1 c
    · rw [if_neg c] at hz
      rcases List.mem_cons.1 hm with rfl | hm
      · exact hk_new (Classical.not_not.1 c)
      · exact tpL_new r _ _ hz h hm

theorem tpV_new {p : List Hunk} (hz : tpV p = (0, 0)) : ∀ h, h ∈ p → lin h.2.2 = (0, 0) := by
  unfold tpV at hz
  by_cases c : 130 < p.length
  · rw [if_pos c] at hz; simp at hz
  · rw [if_neg c] at hz; exact tpL_new _ _ _ hz

/-- A patch that applies: valid parts, a valid text, the distance at most its size. -/
theorem tpA_good {p : List Hunk} {t : Txt} (h : (tpA p t).2 = (0, 0)) : lin t = (0, 0) ∧ lin (tpA p t).1 = (0, 0) ∧ far t (tpA p t).1 ≤ (cst p : Nat) := by
  unfold tpA at h ⊢
  by_cases c1 : tpV p ≠ (0, 0)
  · rw [if_pos c1] at h; exact absurd h c1
  rw [if_neg c1] at h ⊢
  by_cases c2 : sec (lin t) (-2) ≠ (0, 0)
  · rw [if_pos c2] at h; exact absurd h c2
  rw [if_neg c2] at h ⊢
  by_cases c3 : ocL t 0 p ≠ (0, 0)
  · rw [if_pos c3] at h; exact absurd h c3
  rw [if_neg c3] at h ⊢
  by_cases c4 : 120 < (rawL t 0 p []).length
  · rw [if_pos c4] at h; simp at h
  rw [if_neg c4]
  have hv := Classical.not_not.1 c1
  have hl : lin t = (0, 0) := sec_zero (lin_zero t) (Classical.not_not.1 c2)
  have hr := run_of (text := t) (low := 0) (tpV_len hv).2 (Classical.not_not.1 c3) (by omega) (by omega) (by omega)
  refine ⟨hl, (lin_iff _).2 ⟨by show (rawL t 0 p []).length ≤ 120; omega, ?_⟩, raw_far p 0 hr⟩
  exact raw_lines ((lin_iff t).1 hl).2 p 0 [] (fun h hm => ((lin_iff _).1 (tpV_new hv h hm)).2) (fun s hs => by cases hs)

theorem tpL_zero : ∀ (p : List Hunk) (e : Int) (i : Nat), (tpL e i p).1 = 0 → tpL e i p = (0, 0)
  | [], e, i, h => rfl
  | a :: r, e, i, h => by
    rw [tpL] at h ⊢
    by_cases c : hk a e ≠ 0
    · rw [if_pos c] at h; exact absurd h c
    · rw [if_neg c] at h ⊢; exact tpL_zero r _ _ h

theorem ocL_zero {t : Txt} : ∀ (p : List Hunk) (i : Nat), (ocL t i p).1 = 0 → ocL t i p = (0, 0)
  | [], i, h => rfl
  | a :: r, i, h => by
    rw [ocL] at h ⊢
    by_cases c : oc t a.2.1 a.1 = false
    · rw [if_pos c] at h; simp at h
    · rw [if_neg c] at h ⊢; exact ocL_zero r _ h

theorem tpV_zero {p : List Hunk} (h : (tpV p).1 = 0) : tpV p = (0, 0) := by
  unfold tpV at h ⊢
  by_cases c : 130 < p.length
  · rw [if_pos c] at h; simp at h
  · rw [if_neg c] at h ⊢
    exact tpL_zero _ _ _ h

theorem tpA_zero {p : List Hunk} {t : Txt} (h : (tpA p t).2.1 = 0) : (tpA p t).2 = (0, 0) := by
  unfold tpA at h ⊢
  by_cases c1 : tpV p ≠ (0, 0)
  · rw [if_pos c1] at h ⊢
    exact tpV_zero h
  rw [if_neg c1] at h ⊢
  by_cases c2 : sec (lin t) (-2) ≠ (0, 0)
  · rw [if_pos c2] at h ⊢
    exact sec_fst (lin_zero t) h
  rw [if_neg c2] at h ⊢
  by_cases c3 : ocL t 0 p ≠ (0, 0)
  · rw [if_pos c3] at h ⊢
    exact ocL_zero _ _ h
  rw [if_neg c3] at h ⊢
  by_cases c4 : 120 < (rawL t 0 p []).length
  · rw [if_pos c4] at h; simp at h
  · rw [if_neg c4]

end Tp
end Go.Proofs.YtkpplfghhciacaaDoor

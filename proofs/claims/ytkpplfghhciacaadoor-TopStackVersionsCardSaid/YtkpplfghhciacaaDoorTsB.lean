/-
  diff.Distance: the table of common parts, the alignment, the number of its steps. Conditions: none.
-/
import Derived.Test.YtkpplfghhciacaaDoorTsA
set_option linter.unusedVariables false
set_option linter.unusedSimpArgs false
namespace Go.Proofs.YtkpplfghhciacaaDoor
open Eng
namespace Tp

theorem idx_lt {i j n w : Nat} (hi : i ≤ n) (hj : j < w) : i * w + j < (n + 1) * w := by
  have := Nat.mul_le_mul_right w hi
  rw [Nat.add_mul]
  omega

theorem idx_inj {i j i' j' w : Nat} (hj : j < w) (hj' : j' < w) (h : i * w + j = i' * w + j') : i = i' ∧ j = j' := by
  have h1 : (i * w + j) / w = i := by rw [Nat.mul_comm, Nat.mul_add_div (by omega), Nat.div_eq_of_lt hj]; omega
  have h2 : (i' * w + j') / w = i' := by rw [Nat.mul_comm, Nat.mul_add_div (by omega), Nat.div_eq_of_lt hj']; omega
  have e : i = i' := by rw [← h1, h, h2]
  subst e
  exact ⟨rfl, by omega⟩

theorem mul_small {a b : Nat} (ha : a ≤ 121) (hb : b ≤ 121) : a * b ≤ 14641 := Nat.mul_le_mul ha hb

section
variable (a b : Txt)

/-- The table where P tells which cells are done. -/
structure Tab (P : Nat → Nat → Prop) (t : List Int) : Prop where
  len : t.length = (a.length + 1) * (b.length + 1)
  val : ∀ i j, i ≤ a.length → j ≤ b.length → P i j → t.getD (i * (b.length + 1) + j) 0 = (lcs (a.drop i) (b.drop j) : Nat)
end
variable {a b : Txt}

theorem idx_ok {i j : Nat} (ha : a.length ≤ 120) (hb : b.length ≤ 120) (hi : i ≤ a.length) (hj : j ≤ b.length) : i64 ((i64 ((i : Int) * ((b.length + 1 : Nat) : Int))) + (j : Int)) = ((i * (b.length + 1) + j : Nat) : Int) := by
  have h1 := mul_small (a := i) (b := b.length + 1) (by omega) (by omega)
  have e : (i : Int) * ((b.length + 1 : Nat) : Int) = ((i * (b.length + 1) : Nat) : Int) := by push_cast; rfl
  rw [e, i64_id (n := ((i * (b.length + 1) : Nat) : Int)) (by omega) (by omega), i64_id (by omega) (by omega)]
  omega

theorem at_ok {P : Nat → Nat → Prop} {t : List Int} (hT : Tab a b P t) (ha : a.length ≤ 120) (hb : b.length ≤ 120) {i j : Nat} (hi : i ≤ a.length) (hj : j ≤ b.length) (hP : P i j) {K : Int → Prop} (hK : K (lcs (a.drop i) (b.drop j) : Nat)) :
    L.diff_Align_1_v8 (i : Int) (j : Int) t ((b.length + 1 : Nat) : Int) K := by
  constructor
  unfold L.diff_Align_1_v8_B
  have hlt := idx_lt (w := b.length + 1) hi (show j < b.length + 1 by omega)
  rw [idx_ok ha hb hi hj, Int.toNat_natCast, hT.val i j hi hj hP]
  exact ⟨⟨by omega, by rw [hT.len]; omega⟩, hK⟩

def Dn (i0 jn : Nat) (m : Nat) (i j : Nat) : Prop := i0 < i ∨ (i = i0 ∧ jn ≤ j) ∨ j = m

theorem drop_get {l : Txt} {i : Nat} (h : i < l.length) : l.drop i = l.getD i ByteArray.empty :: l.drop (i + 1) := by
  rw [List.drop_eq_getElem_cons h, List.getD_eq_getElem?_getD, List.getElem?_eq_getElem h]
  rfl

theorem tab_set {t : List Int} {i jn : Nat} {v : Int} (hi : i < a.length) (hj : jn < b.length) (hT : Tab a b (Dn i (jn + 1) b.length) t) (hv : v = (lcs (a.drop i) (b.drop jn) : Nat)) : Tab a b (Dn i jn b.length) (t.set (i * (b.length + 1) + jn) v) where
  len := by rw [List.length_set]; exact hT.len
  val i' j' h1 h2 hP := by
    have hlt := idx_lt (w := b.length + 1) (n := a.length) (i := i) (j := jn) (by omega) (by omega)
    by_cases e : i' = i ∧ j' = jn
    · obtain ⟨rfl, rfl⟩ := e
      rw [List.getD_eq_getElem?_getD, List.getElem?_set_self (by rw [hT.len]; exact hlt)]
      exact hv
    · have hne : i * (b.length + 1) + jn ≠ i' * (b.length + 1) + j' := fun h => e (by obtain ⟨p, q⟩ := idx_inj (by omega) (by omega) h; exact ⟨p.symm, q.symm⟩)
      rw [List.getD_eq_getElem?_getD, List.getElem?_set_ne hne, ← List.getD_eq_getElem?_getD]
      refine hT.val i' j' h1 h2 ?_
      unfold Dn at hP ⊢
      omega

theorem inner_loop (ha : a.length ≤ 120) (hb : b.length ≤ 120) {i : Nat} (hi : i < a.length) {K : List Int → Prop} (hK : ∀ t, Tab a b (Dn i 0 b.length) t → K t) : ∀ (fu jn : Nat) (t : List Int), jn ≤ b.length → jn < fu → Tab a b (Dn i jn b.length) t →
    L.diff_Align_L2_R a b (i : Int) ((b.length + 1 : Nat) : Int) fu ((jn : Int) - 1) t K
  | 0, jn, t, _, h, _ => by omega
  | fu + 1, 0, t, hj, h, hT => by
    show L.diff_Align_L2_b _ _ _ _ _ _ _ _
    unfold L.diff_Align_L2_b
    exact cond_f (by simp) (hK t hT)
  | fu + 1, jn + 1, t, hj, h, hT => by
    show L.diff_Align_L2_b _ _ _ _ _ _ _ _
    unfold L.diff_Align_L2_b
    have e0 : ((jn + 1 : Nat) : Int) - 1 = (jn : Int) := by omega
    rw [e0]
    have e1 : i64 ((i : Int) + 1) = ((i + 1 : Nat) : Int) := by rw [i64_id (by omega) (by omega)]; omega
    have e2 : i64 ((jn : Int) + 1) = ((jn + 1 : Nat) : Int) := by rw [i64_id (by omega) (by omega)]; omega
    have e3 : i64 ((jn : Int) - 1) = (jn : Int) - 1 := i64_id (by omega) (by omega)
    rw [e1, e2, e3]
    have hlt := idx_lt (w := b.length + 1) (n := a.length) (i := i) (j := jn) (by omega) (by omega)
    have bi : inB (i : Int) a.length := ⟨by omega, by omega⟩
    have bj : inB (jn : Int) b.length := ⟨by omega, by omega⟩
    refine cond_t (by simp) (at_ok hT ha hb (by omega) (by omega) (.inl (by omega)) (at_ok hT ha hb (by omega) hj (.inr (.inl ⟨rfl, Nat.le_refl _⟩)) ⟨bi, bj, ?_⟩))
    rw [idx_ok ha hb (by omega) (by omega)]
    simp only [Int.toNat_natCast]
    have bx : inB ((i * (b.length + 1) + jn : Nat) : Int) t.length := ⟨by omega, by rw [hT.len]; omega⟩
    have da := drop_get hi
    have db := drop_get (show jn < b.length by omega)
    have hle : lcs (a.drop (i + 1)) (b.drop (jn + 1)) ≤ 120 := by
      have : ∀ (n : Nat) (x y : Txt), x.length + y.length ≤ n → lcs x y ≤ x.length := by
        intro n
        induction n with
        | zero =>
          intro x y h
          obtain rfl := List.length_eq_zero_iff.1 (show x.length = 0 by omega)
          rw [nil_lcs]; omega
        | succ n ih =>
          intro x y h
          match x, y with
          | [], y => rw [nil_lcs]; omega
          | u :: x, [] => rw [lcs_nil]; omega
          | u :: x, v :: y =>
            simp only [List.length_cons] at h ⊢
            have h1 := ih x y (by omega)
            have h2 := ih x (v :: y) (by simp only [List.length_cons]; omega)
            have h3 := ih (u :: x) y (by simp only [List.length_cons]; omega)
            simp only [List.length_cons] at h3
            rw [lcs.eq_3]
            split <;> omega
      have := this _ (a.drop (i + 1)) (b.drop (jn + 1)) (Nat.le_refl _)
      rw [List.length_drop] at this
      omega
    by_cases he : eqb (a.getD i ByteArray.empty) (b.getD jn ByteArray.empty) = true
    · refine cond_t he (at_ok hT ha hb (by omega) hj (.inl (by omega)) ⟨bx, ?_⟩)
      have ev : i64 ((lcs (a.drop (i + 1)) (b.drop (jn + 1)) : Nat) + 1) = (lcs (a.drop i) (b.drop jn) : Nat) := by
        rw [da, db, lcs.eq_3, if_pos he, i64_id (by omega) (by omega)]
        omega
      rw [ev]
      exact inner_loop ha hb hi hK fu jn _ (by omega) (by omega) (tab_set hi (by omega) hT rfl)
    · refine cond_f (by simpa [eqb] using he) ⟨bx, ?_⟩
      have ev : amx (lcs (a.drop (i + 1)) (b.drop jn) : Nat) (lcs (a.drop i) (b.drop (jn + 1)) : Nat) = (lcs (a.drop i) (b.drop jn) : Nat) := by
        rw [da, db, lcs.eq_3, if_neg he, ← da, ← db]
        unfold amx
        split <;> omega
      rw [ev]
      exact inner_loop ha hb hi hK fu jn _ (by omega) (by omega) (tab_set hi (by omega) hT rfl)

theorem outer_loop (ha : a.length ≤ 120) (hb : b.length ≤ 120) {K : List Int → Prop} (hK : ∀ t, Tab a b (fun _ _ => True) t → K t) : ∀ (fu ni : Nat) (t : List Int), ni ≤ a.length → ni < fu → Tab a b (fun i j => ni ≤ i ∨ j = b.length) t →
    L.diff_Align_L1_R a b ((b.length + 1 : Nat) : Int) fu ((ni : Int) - 1) t K
  | 0, ni, t, _, h, _ => by omega
  | fu + 1, 0, t, hn, h, hT => by
    show L.diff_Align_L1_b _ _ _ _ _ _ _
    unfold L.diff_Align_L1_b
    exact cond_f (by simp) (hK t ⟨hT.len, fun i j h1 h2 _ => hT.val i j h1 h2 (.inl (by omega))⟩)
  | fu + 1, ni + 1, t, hn, h, hT => by
    show L.diff_Align_L1_b _ _ _ _ _ _ _
    unfold L.diff_Align_L1_b
    have e0 : ((ni + 1 : Nat) : Int) - 1 = (ni : Int) := by omega
    have e3 : i64 ((ni : Int) - 1) = (ni : Int) - 1 := i64_id (by omega) (by omega)
    have e4 : i64 ((b.length : Int) - 1) = (b.length : Int) - 1 := i64_id (by omega) (by omega)
    rw [e0, e3, e4]
    refine cond_t (by simp) ⟨b.length + 1, inner_loop ha hb (by omega) (fun t' hT' => ?_) (b.length + 1) b.length t (Nat.le_refl _) (by omega) ⟨hT.len, fun i j h1 h2 hP => hT.val i j h1 h2 ?_⟩⟩
    · exact outer_loop ha hb hK fu ni t' (by omega) (by omega) ⟨hT'.len, fun i j h1 h2 hP => hT'.val i j h1 h2 (by unfold Dn; omega)⟩
    · unfold Dn at hP; omega

/-- How many steps are no keeping. -/
def nz (l : List Int) : Nat := (l.filter fun x => x != 0).length
theorem nz_app (l m : List Int) : nz (l ++ m) = nz l + nz m := by unfold nz; rw [List.filter_append, List.length_append]

theorem lcs_dn {i j : Nat} (hi : i < a.length) (hj : j < b.length) : lcs (a.drop i) (b.drop j) = if eqb (a.getD i ByteArray.empty) (b.getD j ByteArray.empty) = true then lcs (a.drop (i + 1)) (b.drop (j + 1)) + 1 else max (lcs (a.drop (i + 1)) (b.drop j)) (lcs (a.drop i) (b.drop (j + 1))) := by
  rw [drop_get hi, drop_get hj, lcs.eq_3]

theorem far_dn (i j : Nat) (hi : i ≤ a.length) (hj : j ≤ b.length) : far (a.drop i) (b.drop j) = (a.length : Int) - i + (b.length - j) - 2 * (lcs (a.drop i) (b.drop j) : Nat) := by
  unfold far
  rw [List.length_drop, List.length_drop]
  omega

theorem walk_loop {t : List Int} (hT : Tab a b (fun _ _ => True) t) (ha : a.length ≤ 120) (hb : b.length ≤ 120) {K : List Int → Prop} (hK : ∀ out : List Int, (nz out : Int) = far a b → out.length ≤ 240 → K out) : ∀ (fu i j : Nat) (out : List Int), i ≤ a.length → j ≤ b.length → a.length - i + (b.length - j) < fu → out.length ≤ i + j →
    (nz out : Int) + far (a.drop i) (b.drop j) = far a b → L.diff_Align_L3_R a b ((b.length + 1 : Nat) : Int) t fu (i : Int) (j : Int) out K
  | 0, i, j, out, _, _, h, _, _ => by omega
  | fu + 1, i, j, out, hi, hj, h, hl, he => by
    show L.diff_Align_L3_b _ _ _ _ _ _ _ _ _
    unfold L.diff_Align_L3_b
    have e1 : i64 ((i : Int) + 1) = ((i + 1 : Nat) : Int) := by rw [i64_id (by omega) (by omega)]; omega
    have e2 : i64 ((j : Int) + 1) = ((j + 1 : Nat) : Int) := by rw [i64_id (by omega) (by omega)]; omega
    have f1 : ∀ x : Int, fits (out.length + ([x] : List Int).length) := fun x => by unfold fits; simp; omega
    have fd := far_dn (a := a) (b := b) i j hi hj
    rw [e1, e2]
    have del : ∀ v : Bool, v = true → i < a.length → far (a.drop i) (b.drop j) = 1 + far (a.drop (i + 1)) (b.drop j) →
        L.diff_Align_J2 (i : Int) (j : Int) v out (fun i j out => L.diff_Align_L3_R a b ((b.length + 1 : Nat) : Int) t fu i j out K) := fun v hv hia hfar => by
      constructor
      unfold L.diff_Align_J2_B
      rw [e1]
      refine cond_t hv ⟨f1 1, ?_⟩
      refine walk_loop hT ha hb hK fu (i + 1) j _ hia hj (by omega) (by simp; omega) ?_
      rw [nz_app]
      have : nz [(1 : Int)] = 1 := rfl
      omega
    have ins : ∀ v : Bool, v = false → j < b.length → far (a.drop i) (b.drop j) = 1 + far (a.drop i) (b.drop (j + 1)) →
        L.diff_Align_J2 (i : Int) (j : Int) v out (fun i j out => L.diff_Align_L3_R a b ((b.length + 1 : Nat) : Int) t fu i j out K) := fun v hv hjb hfar => by
      constructor
      unfold L.diff_Align_J2_B
      rw [e2]
      refine cond_f hv ⟨f1 2, ?_⟩
      refine walk_loop hT ha hb hK fu i (j + 1) _ hi hjb (by omega) (by simp; omega) ?_
      rw [nz_app]
      have : nz [(2 : Int)] = 1 := rfl
      omega
    have bi : i < a.length → inB (i : Int) a.length := fun g => ⟨by omega, by omega⟩
    have bj : j < b.length → inB (j : Int) b.length := fun g => ⟨by omega, by omega⟩
    have di : decide ((i : Int) < (a.length : Int)) = decide (i < a.length) := by apply decide_eq_decide.2; omega
    have dj : decide ((j : Int) < (b.length : Int)) = decide (j < b.length) := by apply decide_eq_decide.2; omega
    rw [di, dj]
    simp only [Int.toNat_natCast]
    by_cases gi : i < a.length
    · rw [decide_eq_true gi]
      have fa := far_dn (a := a) (b := b) (i + 1) j gi hj
      by_cases gj : j < b.length
      · rw [decide_eq_true gj]
        have fb := far_dn (a := a) (b := b) i (j + 1) hi gj
        have fc := far_dn (a := a) (b := b) (i + 1) (j + 1) gi gj
        have hl' := lcs_dn gi gj
        refine cond_t rfl ⟨fun _ => bi gi, fun _ => bj gj, ?_⟩
        by_cases hq : eqb (a.getD i ByteArray.empty) (b.getD j ByteArray.empty) = true
        · rw [if_pos hq] at hl'
          refine cond_t hq ⟨f1 0, ?_⟩
          refine walk_loop hT ha hb hK fu (i + 1) (j + 1) _ gi gj (by omega) (by simp; omega) ?_
          rw [nz_app]
          have : nz [(0 : Int)] = 0 := rfl
          omega
        · rw [if_neg hq] at hl'
          refine cond_f (by simpa [eqb] using hq) (cond_f (by simp; omega) (cond_t rfl ?_))
          refine at_ok hT ha hb gi hj trivial (at_ok hT ha hb hi gj trivial ?_)
          by_cases hge : lcs (a.drop (i + 1)) (b.drop j) ≥ lcs (a.drop i) (b.drop (j + 1))
          · exact del _ (by simp; omega) gi (by omega)
          · exact ins _ (by simp; omega) gj (by omega)
      · rw [decide_eq_false gj]
        have ej : j = b.length := by omega
        have dn : b.drop j = [] := List.drop_eq_nil_of_le (by omega)
        rw [dn, lcs_nil] at fd fa
        refine cond_t rfl ⟨fun h => absurd h (by decide), fun h => absurd h (by decide), cond_f rfl (cond_t (by rw [beq_iff_eq, ej]) ?_)⟩
        refine del true rfl gi ?_
        rw [dn]
        omega
    · rw [decide_eq_false gi]
      have dn : a.drop i = [] := List.drop_eq_nil_of_le (by omega)
      by_cases gj : j < b.length
      · rw [decide_eq_true gj]
        have fb := far_dn (a := a) (b := b) i (j + 1) hi gj
        rw [dn, nil_lcs] at fd fb
        refine cond_t rfl ⟨fun h => absurd h (by decide), fun h => absurd h (by decide), cond_f rfl (cond_f (by rw [beq_eq_false_iff_ne]; omega) (cond_f rfl ?_))⟩
        refine ins _ rfl gj ?_
        rw [dn]
        omega
      · rw [decide_eq_false gj]
        have dn2 : b.drop j = [] := List.drop_eq_nil_of_le (by omega)
        rw [dn, dn2, far_self] at he
        exact cond_f rfl (hK out (by omega) (by omega))

theorem align_ok (ha : a.length ≤ 120) (hb : b.length ≤ 120) {K : List Int → Prop} (hK : ∀ out : List Int, (nz out : Int) = far a b → out.length ≤ 240 → K out) : L.diff_Align a b K := by
  constructor
  unfold L.diff_Align_B
  have hm := mul_small (a := a.length + 1) (b := b.length + 1) (by omega) (by omega)
  have e1 : i64 ((a.length : Int) + 1) = ((a.length + 1 : Nat) : Int) := by rw [i64_id (by omega) (by omega)]; omega
  have e2 : i64 ((b.length : Int) + 1) = ((b.length + 1 : Nat) : Int) := by rw [i64_id (by omega) (by omega)]; omega
  have e3 : i64 ((a.length : Int) - 1) = (a.length : Int) - 1 := i64_id (by omega) (by omega)
  have em : ((a.length + 1 : Nat) : Int) * ((b.length + 1 : Nat) : Int) = (((a.length + 1) * (b.length + 1) : Nat) : Int) := by push_cast; rfl
  rw [e1, e2, e3, em, i64_id (n := (((a.length + 1) * (b.length + 1) : Nat) : Int)) (by omega) (by omega), Int.toNat_natCast]
  refine ⟨⟨by omega, by omega, by omega⟩, ⟨a.length + 1, outer_loop ha hb (fun t hT => ?_) (a.length + 1) a.length _ (Nat.le_refl _) (by omega) ⟨List.length_replicate, fun i j h1 h2 hP => ?_⟩⟩⟩
  · exact ⟨a.length + b.length + 1, walk_loop hT ha hb hK _ 0 0 [] (by omega) (by omega) (by omega) (by simp) (by simp [nz])⟩
  · have hlt := idx_lt (w := b.length + 1) h1 (show j < b.length + 1 by omega)
    rw [List.getD_eq_getElem?_getD, List.getElem?_replicate_of_lt hlt]
    rcases hP with hP | hP
    · rw [List.drop_eq_nil_of_le hP, nil_lcs]; rfl
    · rw [hP, List.drop_length, lcs_nil]; rfl

theorem count_loop {l : List Int} (hl : l.length ≤ 240) {K : Int → Prop} (hK : K (nz l : Nat)) : ∀ (fu i : Nat), i ≤ l.length → l.length - i < fu → L.diff_Distance_L1_R (l.length : Int) l fu (nz (l.take i) : Nat) (i : Int) K
  | 0, i, _, h => by omega
  | fu + 1, i, hi, h => by
    show L.diff_Distance_L1_b _ _ _ _ _ _
    unfold L.diff_Distance_L1_b
    rcases Nat.lt_or_ge i l.length with g | g
    · have es : i64 ((i : Int) + 1) = ((i + 1 : Nat) : Int) := by rw [i64_id (by omega) (by omega)]; omega
      have hn : nz (l.take i) ≤ i := by
        have := List.length_filter_le (fun x : Int => x != 0) (l.take i)
        rw [List.length_take] at this
        unfold nz
        omega
      have ih := count_loop hl hK fu (i + 1) g (by omega)
      have et : l.take (i + 1) = l.take i ++ [l.getD i 0] := by
        rw [List.take_add_one, List.getElem?_eq_getElem g, List.getD_eq_getElem?_getD, List.getElem?_eq_getElem g]
        rfl
      rw [et, nz_app] at ih
      refine cond_t (by simp; omega) ⟨⟨by omega, by omega⟩, ?_⟩
      rw [Int.toNat_natCast, es]
      by_cases hz : l.getD i 0 = 0
      · have : nz [l.getD i 0] = 0 := by rw [hz]; rfl
        rw [this, Nat.add_zero] at ih
        exact cond_f (by rw [hz]; rfl) ih
      · have : nz [l.getD i 0] = 1 := by
          have aux : ∀ z : Int, z ≠ 0 → nz [z] = 1 := fun z h => by simp [nz, h]
          exact aux _ hz
        rw [this] at ih
        refine cond_t (bne_iff_ne.2 hz) ?_
        rw [i64_id (by omega) (by omega)]
        exact_mod_cast ih
    · obtain rfl : i = l.length := by omega
      rw [List.take_length]
      exact cond_f (by simp) hK

theorem distance_ok (ha : lin a = (0, 0)) (hb : lin b = (0, 0)) {K : Int → Int → Int → Prop} (hK : K (far a b) 0 0) : L.diff_Distance a b K := by
  constructor
  unfold L.diff_Distance_B
  constructor
  unfold L.lines_Both_B
  refine lin_ok ?_
  rw [ha]
  refine cond_f rfl (linS_ok ?_)
  rw [hb]
  refine cond_f rfl (align_ok (lin_len ha) (lin_len hb) fun out h1 h2 => ⟨out.length + 1, count_loop h2 ?_ (out.length + 1) 0 (by omega) (by omega)⟩)
  rw [h1]
  exact hK

end Tp
end Go.Proofs.YtkpplfghhciacaaDoor

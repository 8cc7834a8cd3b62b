/-
  The faults of a patch of trees; a copy of a tree; the place of a file. Conditions: none.
-/
import Derived.Test.YtkpplfghhciacaaDoorLaU
set_option linter.unusedVariables false
set_option linter.unusedSimpArgs false
namespace Go.Proofs.YtkpplfghhciacaaDoor
open Eng Bb
namespace Tp

def chk2 (c : Chg) : Int := if lin c.2.2.2.1 ≠ (0, 0) then (lin c.2.2.2.1).1 else (tpV c.2.2.2.2).1
def chk1 (c : Chg) : Int :=
  if (decide (0 < c.2.2.2.1.length) && (c.1 == 4 || c.1 == 3)) = true then 5 else if (!(c.1 == 4) == decide (0 < c.2.2.2.2.length)) = true then 5 else chk2 c
/-- The code of a change. -/
def chk (c : Chg) : Int :=
  if c.1 < 1 ∨ 4 < c.1 then 4 else if La.vp_R c.2.1 = false then 12 else if (c.1 == 3 && !La.vp_R c.2.2.1) = true then 12 else
    if (!(c.1 == 3) && !(c.2.2.1.toList == L.str1.toList)) = true then 5 else if (c.1 == 3 && rel c.2.1 c.2.2.1) = true then 5 else chk1 c

theorem chk2_ok {c : Chg} {K : Int → Prop} (hK : K (chk2 c)) : L.treepatch_check_J1 c.2.2.2.1 c.2.2.2.2 K := by
  refine ⟨lin_ok ?_⟩
  unfold chk2 at hK
  by_cases c1 : lin c.2.2.2.1 ≠ (0, 0)
  · rw [if_pos c1] at hK; exact cond_t (fault1 (by exact c1)) hK
  · rw [if_neg c1] at hK
    exact cond_f (fault0 (Decidable.not_not.1 c1)) (tpV_ok hK)

theorem chk1_ok {c : Chg} {K : Int → Prop} (hK : K (chk1 c)) : L.treepatch_check_J3 (c.1 == 4) (c.1 == 3) false c.2.2.2.1 c.2.2.2.2 (L.treepatch_check_J1 c.2.2.2.1 c.2.2.2.2 K) K := by
  constructor
  unfold L.treepatch_check_J3_B
  refine cond_f rfl ?_
  unfold chk1 at hK
  have e1 : (bif (decide ((c.2.2.2.1.length : Int) > 0)) then (bif (c.1 == 4) then true else (c.1 == 3)) else false) = (decide (0 < c.2.2.2.1.length) && (c.1 == 4 || c.1 == 3)) := by
    have : decide ((c.2.2.2.1.length : Int) > 0) = decide (0 < c.2.2.2.1.length) := by simp
    rw [this]
    cases decide (0 < c.2.2.2.1.length) <;> cases (c.1 == 4) <;> rfl
  have e2 : (!((c.1 == 4) == (decide ((c.2.2.2.2.length : Int) > 0)))) = (!(c.1 == 4) == decide (0 < c.2.2.2.2.length)) := by
    have : decide ((c.2.2.2.2.length : Int) > 0) = decide (0 < c.2.2.2.2.length) := by simp
    rw [this]
  rw [e1, e2]
  cases c1 : (decide (0 < c.2.2.2.1.length) && (c.1 == 4 || c.1 == 3)) with
  | true => rw [if_pos c1] at hK; exact hK
  | false =>
    rw [if_neg (by rw [c1]; decide)] at hK
    refine cond_f rfl ?_
    cases c2 : (!(c.1 == 4) == decide (0 < c.2.2.2.2.length)) with
    | true => rw [if_pos c2] at hK; exact hK
    | false =>
      rw [if_neg (by rw [c2]; decide)] at hK
      exact chk2_ok hK

theorem chk_ok {c : Chg} {K : Int → Prop} (hK : K (chk c)) : L.treepatch_check c.1 c.2.1 c.2.2.1 c.2.2.2.1 c.2.2.2.2 K := by
  constructor
  unfold L.treepatch_check_B
  unfold chk at hK
  by_cases c1 : c.1 < 1 ∨ 4 < c.1
  · rw [if_pos c1] at hK
    exact cond_t (by simp only [bor, Bool.or_eq_true, decide_eq_true_eq]; omega) hK
  rw [if_neg c1] at hK
  refine cond_f (by simp only [bor, Bool.or_eq_false_iff, decide_eq_false_iff_not]; omega) ⟨?_⟩
  show (bif (!La.vp_R c.2.1) then _ else _)
  cases c2 : La.vp_R c.2.1 with
  | false =>
    rw [if_pos c2] at hK
    exact cond_t rfl ⟨cond_t rfl hK⟩
  | true =>
    rw [if_neg (by rw [c2]; decide)] at hK
    refine cond_f rfl ?_
    have rest : (c.1 == 3 && !La.vp_R c.2.2.1) = false → L.treepatch_check_J2 (c.1 == 4) (c.1 == 3) false c.2.1 c.2.2.1 c.2.2.2.1 c.2.2.2.2 (L.treepatch_check_J1 c.2.2.2.1 c.2.2.2.2 K) K := fun c3 => by
      rw [if_neg (by rw [c3]; decide)] at hK
      constructor
      unfold L.treepatch_check_J2_B
      refine cond_f rfl ?_
      cases c4 : (c.1 == 3) with
      | true =>
        rw [c4] at hK c3
        simp only [Bool.not_true, Bool.false_and, Bool.false_eq_true, if_false, Bool.true_and] at hK c3
        refine cond_f rfl (cond_t rfl (rel_ok (vp_size c2) (vp_size (by simpa using c3)) ?_))
        cases c5 : rel c.2.1 c.2.2.1 with
        | true => rw [if_pos c5] at hK; exact ⟨cond_t rfl hK⟩
        | false =>
          rw [if_neg (by rw [c5]; decide)] at hK
          have := chk1_ok hK
          rw [c4] at this
          exact this
      | false =>
        rw [c4] at hK
        simp only [Bool.not_false, Bool.true_and, Bool.false_and, Bool.false_eq_true, if_false] at hK
        cases c5 : (c.2.2.1.toList == L.str1.toList) with
        | false =>
          rw [c5] at hK
          exact cond_t rfl ⟨cond_t rfl hK⟩
        | true =>
          rw [c5] at hK
          refine cond_f rfl (cond_f rfl ?_)
          have := chk1_ok (K := K) hK
          rw [c4] at this
          exact this
    cases c4 : (c.1 == 3) with
    | false =>
      have := rest (by rw [c4]; rfl)
      rw [c4] at this
      exact this
    | true =>
      refine cond_t rfl ⟨?_⟩
      show L.treepatch_check_J2 (c.1 == 4) true (bif false then true else (bif true then (!La.vp_R c.2.2.1) else false)) _ _ _ _ _ _
      cases c3 : La.vp_R c.2.2.1 with
      | true =>
        have := rest (by rw [c3]; simp)
        rw [c4] at this
        exact this
      | false =>
        rw [if_pos (by rw [c3, c4]; rfl)] at hK
        exact ⟨cond_t rfl hK⟩

def vPL : Nat → Patch → Int × Int
  | _, [] => (0, 0)
  | i, c :: r => if chk c ≠ 0 then (chk c, i) else vPL (i + 1) r
/-- The fault of a patch. -/
def vP (p : Patch) : Int × Int := if 30 < p.length then (2, -1) else vPL 0 p

theorem vP_loop {p : Patch} (hl : p.length ≤ 30) {K : Int → Int → Prop} : ∀ (fu i : Nat), i ≤ p.length → p.length - i < fu → K (vPL i (p.drop i)).1 (vPL i (p.drop i)).2 → L.treepatch_ValidatePatch_L1_R p (p.length : Int) fu i (K 0 0) K
  | 0, i, _, h, _ => by omega
  | fu + 1, i, hi, h, hK => by
    show L.treepatch_ValidatePatch_L1_b p _ i _ _ _
    unfold L.treepatch_ValidatePatch_L1_b
    rcases Nat.lt_or_ge i p.length with g | g
    · rw [drop_cons noChg g, vPL] at hK
      refine cond_t (by simp; omega) ⟨inB_of (by omega) (by omega), ?_⟩
      simp only [Int.toNat_natCast]
      refine chk_ok (c := p.getD i noChg) ?_
      by_cases c : chk (p.getD i noChg) ≠ 0
      · rw [if_pos c] at hK; exact cond_t (by simpa using c) hK
      · rw [if_neg c] at hK
        refine cond_f (by simpa using c) ?_
        rw [i64_id (by omega) (by omega)]
        exact vP_loop hl fu (i + 1) (by omega) (by omega) hK
    · rw [List.drop_eq_nil_of_le g] at hK
      exact cond_f (by simp; omega) hK

theorem vP_ok {p : Patch} {K : Int → Int → Prop} (hK : K (vP p).1 (vP p).2) : L.treepatch_ValidatePatch p K := by
  constructor
  unfold L.treepatch_ValidatePatch_B
  unfold vP at hK
  by_cases c : 30 < p.length
  · rw [if_pos c] at hK; exact cond_t (by simp; omega) hK
  · rw [if_neg c] at hK
    exact cond_f (by simp; omega) ⟨⟨p.length + 1, vP_loop (by omega) _ 0 (by omega) (by omega) hK⟩⟩

theorem clone_ok {s : Txt} (h : s.length ≤ 120) {K : Txt → Prop} (hK : K s) : L.slices_Clone s K := by
  refine ⟨fun b hb => ?_⟩
  cases b with
  | true =>
    cases s with
    | nil => exact hK
    | cons a t => exact absurd (hb (by simp)) (by decide)
  | false => exact ⟨by unfold fits; simp; omega, by simpa using hK⟩

theorem copy_loop {t : Tree} (hl : t.length ≤ 24) (hf : ∀ f, f ∈ t → f.2.length ≤ 120) {K : Tree → Prop} (hK : K t) : ∀ (fu i : Nat), i ≤ t.length → t.length - i < fu → L.treepatch_CopyTree_h2_L1_R t (t.length : Int) fu i (t.take i) K
  | 0, i, _, h => by omega
  | fu + 1, i, hi, h => by
    show L.treepatch_CopyTree_h2_L1_b t _ i (t.take i) _ _
    unfold L.treepatch_CopyTree_h2_L1_b
    rcases Nat.lt_or_ge i t.length with g | g
    · refine cond_t (by simp; omega) ⟨inB_of (by omega) (by omega), ?_⟩
      simp only [Int.toNat_natCast]
      have hm := hf _ (getD_mem noFile g)
      have e : t.take i ++ ([((t.getD i noFile).1, (t.getD i noFile).2)] : Tree) = t.take (i + 1) := by
        rw [List.take_succ_eq_append_getElem g, List.getD_eq_getElem?_getD, List.getElem?_eq_getElem g]; rfl
      have one : (fits ((t.take i).length + ([((t.getD i noFile).1, (t.getD i noFile).2)] : Tree).length)) ∧ L.treepatch_CopyTree_h2_L1_R t (t.length : Int) fu (i64 ((i : Int) + 1)) (t.take i ++ ([((t.getD i noFile).1, (t.getD i noFile).2)] : Tree)) K := by
        refine ⟨by unfold fits; simp; omega, ?_⟩
        rw [e, i64_id (by omega) (by omega)]
        exact copy_loop hl hf hK fu (i + 1) (by omega) (by omega)
      exact ⟨⟨clone_ok hm one, clone_ok hm one⟩, ⟨clone_ok hm one, clone_ok hm ⟨one, one⟩⟩, clone_ok hm ⟨one, one, one⟩⟩
    · rw [List.take_of_length_le g]
      exact cond_f (by simp; omega) hK

theorem copy_ok {t : Tree} (hl : t.length ≤ 24) (hf : ∀ f, f ∈ t → f.2.length ≤ 120) {K : Tree → Prop} (hK : K t) : L.treepatch_CopyTree_h2 t K :=
  ⟨⟨⟨t.length + 1, copy_loop hl hf hK _ 0 (by omega) (by omega)⟩⟩⟩

/-- The search for a place. -/
def bsL (t : Tree) (p : ByteArray) : Nat → Nat → Nat → Nat
  | 0, i, _ => i
  | n + 1, i, j => if i < j then (if La.cmp_R (t.getD ((i + j) / 2) noFile).1 p < 0 then bsL t p n ((i + j) / 2 + 1) j else bsL t p n i ((i + j) / 2)) else i
def place (t : Tree) (p : ByteArray) : Nat := bsL t p (t.length + 1) 0 t.length
def found (t : Tree) (p : ByteArray) : Bool := decide (place t p < t.length) && (La.cmp_R (t.getD (place t p) noFile).1 p == 0)

theorem half {i j : Nat} (h : i + j ≤ 1000) : i64 ((IntKind.wrap .u64 (i64 ((i : Int) + (j : Int)))).fdiv (2 ^ (min (1 : Int).toNat 64))) = (((i + j) / 2 : Nat) : Int) := by
  rw [i64_id (n := (i : Int) + j) (by omega) (by omega)]
  have e1 : IntKind.wrap .u64 ((i : Int) + (j : Int)) = ((i + j : Nat) : Int) := by
    show ((i : Int) + (j : Int)) % 18446744073709551616 = _
    omega
  have e2 : (2 ^ (min (1 : Int).toNat 64) : Int) = 2 := by decide
  rw [e1, e2, Int.fdiv_eq_ediv_of_nonneg _ (by decide), i64_id (by omega) (by omega)]
  omega

theorem bs_loop {t : Tree} {p : ByteArray} (hl : t.length ≤ 24) {K : Int → Prop} : ∀ (fu i j : Nat), i ≤ j → j ≤ t.length → j - i < fu → K (bsL t p fu i j : Nat) → L.slices_BinarySearchFunc_v3_L1_R t p fu i j K
  | 0, i, j, _, _, h, _ => by omega
  | fu + 1, i, j, hi, hj, h, hK => by
    show L.slices_BinarySearchFunc_v3_L1_b t p i j _ _
    unfold L.slices_BinarySearchFunc_v3_L1_b
    rw [bsL] at hK
    by_cases c : i < j
    · rw [if_pos c] at hK
      rw [half (by omega)]
      refine cond_t (by simpa using c) ⟨by decide, inB_of (by omega) (by omega), ⟨⟨?_⟩⟩⟩
      show (bif decide (La.cmp_R (t.getD (((i + j) / 2 : Nat) : Int).toNat noFile).1 p < 0) then _ else _)
      rw [Int.toNat_natCast]
      by_cases c2 : La.cmp_R (t.getD ((i + j) / 2) noFile).1 p < 0
      · rw [if_pos c2] at hK
        refine cond_t (decide_eq_true c2) ?_
        rw [i64_id (by omega) (by omega)]
        exact bs_loop hl fu ((i + j) / 2 + 1) j (by omega) hj (by omega) hK
      · rw [if_neg c2] at hK
        exact cond_f (decide_eq_false c2) (bs_loop hl fu i ((i + j) / 2) (by omega) (by omega) (by omega) hK)
    · rw [if_neg c] at hK
      exact cond_f (by simpa using c) hK

theorem bsL_le {t : Tree} {p : ByteArray} : ∀ (n i j : Nat), i ≤ j → bsL t p n i j ≤ j
  | 0, i, j, h => h
  | n + 1, i, j, h => by
    rw [bsL]
    by_cases c : i < j
    · rw [if_pos c]
      by_cases c2 : La.cmp_R (t.getD ((i + j) / 2) noFile).1 p < 0
      · rw [if_pos c2]; exact bsL_le n _ j (by omega)
      · rw [if_neg c2]; have := bsL_le (t := t) (p := p) n i ((i + j) / 2) (by omega); omega
    · rw [if_neg c]; exact h

theorem place_le {t : Tree} {p : ByteArray} : place t p ≤ t.length := bsL_le _ _ _ (Nat.zero_le _)

theorem find_ok {t : Tree} {p : ByteArray} (hl : t.length ≤ 24) {K : Int → Bool → Prop} (hK : K (place t p : Nat) (found t p)) : L.treepatch_Find t p K := by
  refine ⟨⟨⟨t.length + 1, bs_loop hl _ 0 t.length (by omega) (by omega) (by omega) ?_⟩⟩⟩
  refine ⟨fun h => inB_of (by omega) (by simpa using h), ?_⟩
  unfold found at hK
  show (bif decide (((place t p : Nat) : Int) < (t.length : Int)) then _ else _)
  by_cases c : place t p < t.length
  · rw [decide_eq_true c, Bool.true_and] at hK
    refine cond_t (by simpa using c) ⟨⟨?_⟩⟩
    rw [Int.toNat_natCast]
    exact hK
  · rw [decide_eq_false c, Bool.false_and] at hK
    exact cond_f (by simpa using c) hK

end Tp
end Go.Proofs.YtkpplfghhciacaaDoor

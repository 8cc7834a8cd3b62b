/-
  The specification's chance, weight and order of runs; all runs in their order. Conditions: none.
-/
import Derived.Test.YtjlejiefkmimiaaSpF
import Derived.Test.YtjlejiefkmimiaaSrD
set_option linter.unusedVariables false
set_option linter.unusedSimpArgs false
namespace Go.Proofs.Ytjlejiefkmimiaa
open Eng Sp
namespace Sr

theorem Has_loop {l : List Int} {v : Int} (hl : big l.length) {K : Bool → Prop} : ∀ (fu i : Nat), i ≤ l.length → l.length - i < fu → K (decide (v ∈ l.drop i)) → L.ref8_Has_L1_R l v fu i (K false) K
  | 0, i, _, h, _ => by omega
  | fu + 1, i, hi, h, hK => by
    show L.ref8_Has_L1_b l v i _ _ _
    unfold L.ref8_Has_L1_b
    unfold big at hl
    rcases Nat.lt_or_ge i l.length with g | g
    · refine cond_t (by simp; omega) ⟨⟨by omega, by omega⟩, ?_⟩
      rw [Int.toNat_natCast]
      rw [drop_cons 0 g] at hK
      by_cases hv : l.getD i 0 = v
      · refine cond_t (beq_iff_eq.2 hv) ?_
        rw [decide_eq_true (by rw [hv]; exact List.mem_cons_self)] at hK
        exact hK
      · refine cond_f (beq_eq_false_iff_ne.2 hv) ?_
        have es : i64 ((i : Int) + 1) = ((i + 1 : Nat) : Int) := by rw [i64_id (by omega) (by omega)]; omega
        rw [es]
        refine Has_loop hl fu (i + 1) g (by omega) ?_
        have e : decide (v ∈ l.getD i 0 :: l.drop (i + 1)) = decide (v ∈ l.drop (i + 1)) := by
          apply decide_eq_decide.2
          rw [List.mem_cons]
          exact ⟨fun h => h.resolve_left (fun g => hv g.symm), .inr⟩
        rw [e] at hK
        exact hK
    · rw [List.drop_eq_nil_of_le g] at hK
      exact cond_f (by simp; omega) (by simpa using hK)

theorem Has_ok {l : List Int} {v : Int} (hl : big l.length) {K : Bool → Prop} (hK : K (decide (v ∈ l))) : L.ref8_Has l v K :=
  ⟨⟨⟨l.length + 1, Has_loop hl _ 0 (by omega) (by omega) (by simpa using hK)⟩⟩⟩

def stp (last : Int) (w : List Int) (i : Nat) (x o : Int) : Int := if last ≤ i then i64 (o * 100) else if (i : Int) ∈ w then i64 (o * x) else i64 (o * i64 (100 - x))

theorem chs_snoc (last : Int) (w : List Int) (x : Int) : ∀ (l : List Int) (i : Nat) (o : Int), chs last w i (l ++ [x]) o = stp last w (i + l.length) x (chs last w i l o)
  | [], i, o => rfl
  | y :: l, i, o => by
    rw [List.cons_append, chs, chs, chs_snoc last w x l (i + 1), List.length_cons, show i + 1 + l.length = i + (l.length + 1) by omega]

theorem chs_min {last last' : Int} (w : List Int) : ∀ (l : List Int) (i : Nat) (o : Int), (∀ j : Nat, j < i + l.length → (last ≤ (j : Int) ↔ last' ≤ (j : Int))) → chs last w i l o = chs last' w i l o
  | [], i, o, h => rfl
  | y :: l, i, o, h => by
    rw [chs, chs]
    have h0 := h i (by simp)
    rw [chs_min w l (i + 1) _ fun j hj => h j (by simp; omega)]
    by_cases g : last ≤ (i : Int)
    · rw [if_pos g, if_pos (h0.1 g)]
    · rw [if_neg g, if_neg (fun q => g (h0.2 q))]

theorem RChance_R {w : List Int} (hw : big w.length) : ∀ (f : Nat) (l : List Int) (last : Int) (K : Int → Prop), l.length < f → l.length ≤ 1000 → K (chs last w 0 l 1) → L.ref8_Chance_R f l last w K
  | 0, l, last, K, hf, _, _ => by omega
  | f + 1, l, last, K, hf, hl, hK => by
    show L.ref8_Chance_B l last w _ K
    unfold L.ref8_Chance_B
    rcases Nat.eq_zero_or_pos l.length with h0 | h0
    · obtain rfl := List.length_eq_zero_iff.1 h0
      exact cond_t rfl hK
    · obtain ⟨l, x, rfl⟩ : ∃ a b, l = a ++ [b] := ⟨l.dropLast, l.getLast (by intro h; rw [h] at h0; cases h0), (List.dropLast_concat_getLast _).symm⟩
      have hlx : (l ++ [x]).length = l.length + 1 := by simp
      rw [hlx] at hf hl
      have e1 : i64 (((l ++ [x]).length : Int) - 1) = (l.length : Int) := by rw [hlx, i64_id (by omega) (by omega)]; omega
      simp only [e1, Int.toNat_natCast]
      have e2 : (l ++ [x]).take l.length = l := by simp
      have e3 : (l ++ [x]).getD l.length 0 = x := by simp [List.getD_eq_getElem?_getD]
      rw [e2, e3]
      rw [chs_snoc] at hK
      have em : chs (amn last l.length) w 0 l 1 = chs last w 0 l 1 := chs_min w l 0 1 fun j hj => by
        unfold amn
        split <;> omega
      have rc := fun (K' : Int → Prop) (h : K' (chs last w 0 l 1)) => RChance_R hw f l (amn last l.length) K' (by omega) (by omega) (by rw [em]; exact h)
      have bl : (0 : Int) ≤ (l.length : Int) ∧ (l.length : Int) ≤ (l ++ [x]).length := ⟨by omega, by rw [hlx]; omega⟩
      have bi : inB (l.length : Int) (l ++ [x]).length := ⟨by omega, by rw [hlx]; omega⟩
      unfold stp at hK
      rw [Nat.zero_add] at hK
      refine cond_f (by simp; omega) ?_
      by_cases g : last ≤ (l.length : Int)
      · rw [if_pos g] at hK
        refine cond_t (decide_eq_true g) ⟨bl, rc _ ?_⟩
        rw [Int.mul_comm]
        exact hK
      · rw [if_neg g] at hK
        refine cond_f (decide_eq_false g) (Has_ok hw ?_)
        by_cases hm : (l.length : Int) ∈ w
        · rw [if_pos hm] at hK
          refine cond_t (decide_eq_true hm) ⟨bi, bl, rc _ ?_⟩
          rw [Int.mul_comm]
          exact hK
        · rw [if_neg hm] at hK
          refine cond_f (decide_eq_false hm) ⟨bi, bl, rc _ ?_⟩
          rw [Int.mul_comm]
          exact hK

theorem RChance_ok {l w : List Int} {last : Int} (hw : big w.length) (hl : l.length ≤ 1000) {K : Int → Prop} (hK : K (chs last w 0 l 1)) : L.ref8_Chance l last w K :=
  ⟨⟨l.length + 1, RChance_R hw _ l last K (by omega) hl hK⟩⟩

/-- The sum of the powers of two. -/
def wt : List Int → Int
  | [] => 0
  | x :: l => 2 ^ x.toNat + wt l

theorem wt_app : ∀ (a b : List Int), wt (a ++ b) = wt a + wt b
  | [], b => by simp [wt]
  | x :: a, b => by rw [List.cons_append, wt, wt, wt_app a b]; omega

/-- A run of few changes. -/
def Sm (w : List Int) : Prop := w.length ≤ 8 ∧ ∀ x, x ∈ w → 0 ≤ x ∧ x < 8

theorem pw_le8 {x : Int} (h0 : 0 ≤ x) (h : x < 8) : (0 : Int) < 2 ^ x.toNat ∧ (2 : Int) ^ x.toNat ≤ 128 := by
  have h : x.toNat < 8 := by omega
  generalize x.toNat = k at h
  revert h; revert k
  decide

theorem wt_le : ∀ (w : List Int), (∀ x, x ∈ w → 0 ≤ x ∧ x < 8) → 0 ≤ wt w ∧ wt w ≤ 128 * w.length
  | [], _ => by simp [wt]
  | x :: w, h => by
    have h1 := wt_le w fun y hy => h y (by simp [hy])
    have h2 := pw_le8 (h x (by simp)).1 (h x (by simp)).2
    simp only [wt, List.length_cons]
    omega

theorem Weight_loop {w : List Int} (hs : Sm w) {K : Int → Prop} : ∀ (fu i : Nat), i ≤ w.length → w.length - i < fu → K (wt w) → L.ref8_Weight_L1_R w fu (wt (w.take i)) i K
  | 0, i, _, h, _ => by omega
  | fu + 1, i, hi, h, hK => by
    show L.ref8_Weight_L1_b w _ i _ _
    unfold L.ref8_Weight_L1_b
    have hl := hs.1
    rcases Nat.lt_or_ge i w.length with g | g
    · have hm := hs.2 _ (getD_mem 0 g)
      have h1 := wt_le (w.take i) fun x hx => hs.2 x (List.mem_of_mem_take hx)
      have h2 := pw_le8 hm.1 hm.2
      rw [List.length_take] at h1
      have e : wt (w.take (i + 1)) = wt (w.take i) + 2 ^ (w.getD i 0).toNat := by rw [take_snoc 0 g, wt_app]; simp [wt]
      refine cond_t (by simp; omega) ⟨⟨by omega, by omega⟩, ?_⟩
      rw [Int.toNat_natCast]
      refine ⟨hm.1, ?_⟩
      have e64 : min (w.getD i 0).toNat 64 = (w.getD i 0).toNat := by omega
      have es : i64 ((i : Int) + 1) = ((i + 1 : Nat) : Int) := by rw [i64_id (by omega) (by omega)]; omega
      have ew : IntKind.wrap .i64 (2 ^ (w.getD i 0).toNat) = 2 ^ (w.getD i 0).toNat := i64_id (by omega) (by omega)
      rw [e64, Int.one_mul, ew, i64_id (by omega) (by omega), ← e, es]
      exact Weight_loop hs fu (i + 1) g (by omega) hK
    · rw [List.take_of_length_le g]
      exact cond_f (by simp; omega) hK

theorem Weight_ok {w : List Int} (hs : Sm w) {K : Int → Prop} (hK : K (wt w)) : L.ref8_Weight w K :=
  ⟨⟨⟨w.length + 1, Weight_loop hs _ 0 (by omega) (by omega) hK⟩⟩⟩

/-- The order of the runs without their chances. -/
def Lx (x y : R) : Prop := x.1 < y.1 ∨ (x.1 = y.1 ∧ wt x.2 < wt y.2)
instance (x y : R) : Decidable (Lx x y) := by unfold Lx; infer_instance

/-- The order of a plan. -/
def Bf (p : List Int) (x y : R) : Prop := ky p y < ky p x ∨ (ky p x = ky p y ∧ Lx x y)
instance (p : List Int) (x y : R) : Decidable (Bf p x y) := by unfold Bf; infer_instance

theorem Bf_ord (p : List Int) : Ord (cm p) (Bf p) where
  trans x y z h1 h2 := by
    unfold Bf Lx at *
    omega
  cmp x y h g := by
    rw [cm_neg] at g
    unfold Bf at h
    omega

theorem Bf_irr {p : List Int} {x : R} : ¬ Bf p x x := by unfold Bf Lx; omega
theorem Bf_asym {p : List Int} {x y : R} (h : Bf p x y) : ¬ Bf p y x := by unfold Bf Lx at *; omega
theorem Lx_ah {p : List Int} {x y : R} (h : Lx x y) : Ah (cm p) (Bf p) x y := by
  refine ⟨fun g => ?_, fun g => ?_⟩
  · rw [cm_neg] at g
    exact .inl g
  · rw [cm_neg] at g
    by_cases e : ky p x = ky p y
    · exact .inr ⟨e, h⟩
    · exact .inl (by omega)

theorem Before_ok {p : List Int} (hp : p.length ≤ 1000) {x y : R} (hx : Sm x.2) (hy : Sm y.2) {K : Bool → Prop} (hK : K (decide (Bf p x y))) : L.ref8_Before p x.1 x.2 y.1 y.2 K := by
  constructor
  unfold L.ref8_Before_B
  have bx : big x.2.length := by have := hx.1; unfold big; omega
  have by' : big y.2.length := by have := hy.1; unfold big; omega
  refine RChance_ok bx hp (RChance_ok by' hp ?_)
  show bif ((ky p x) != (ky p y)) then K (decide ((ky p x) > (ky p y))) else _
  by_cases h : ky p x = ky p y
  · refine cond_f (by rw [h]; simp) ?_
    by_cases h2 : x.1 = y.1
    · refine cond_f (by rw [h2]; simp) (Weight_ok hx (Weight_ok hy ?_))
      have e : decide (Bf p x y) = decide (wt x.2 < wt y.2) := decide_eq_decide.2 (by unfold Bf Lx; omega)
      rw [e] at hK
      exact hK
    · refine cond_t (bne_iff_ne.2 h2) ?_
      have e : decide (Bf p x y) = decide (x.1 < y.1) := decide_eq_decide.2 (by unfold Bf Lx; omega)
      rw [e] at hK
      exact hK
  · refine cond_t (bne_iff_ne.2 h) ?_
    have e : decide (Bf p x y) = decide (ky p x > ky p y) := decide_eq_decide.2 (by unfold Bf Lx; omega)
    rw [e] at hK
    exact hK

/-- The run of a change and a weight. -/
def rn (k w : Nat) : R := ((k : Int), ro k 0 w)
/-- The runs of a change, and of all changes before n. -/
def row (k : Nat) : List R := (List.range (2 ^ k)).map (rn k)
def all : Nat → List R
  | 0 => []
  | k + 1 => all k ++ row k

theorem all8 : (all 8).Pairwise Lx := by decide +kernel
theorem all_pre : ∀ {n m : Nat}, n ≤ m → (all n).Sublist (all m)
  | n, 0, h => by obtain rfl : n = 0 := by omega
                  exact .refl _
  | n, m + 1, h => by
    rcases Nat.lt_or_ge m n with g | g
    · obtain rfl : n = m + 1 := by omega
      exact .refl _
    · exact (all_pre g).trans (List.sublist_append_left _ _)

theorem all_pw {n : Nat} (h : n ≤ 8) : (all n).Pairwise Lx := all8.sublist (all_pre h)

theorem mbs_all : ∀ k : Nat, k < 8 → ∀ w : Nat, w < 2 ^ k → mbs (w : Int) 8 0 [] = ro k 0 w := by decide +kernel

theorem all_mem {n : Nat} {x : R} (h : x ∈ all n) : ∃ k w, k < n ∧ w < 2 ^ k ∧ x = rn k w := by
  induction n with
  | zero => simp [all] at h
  | succ n ih =>
    rw [all, List.mem_append] at h
    rcases h with h | h
    · obtain ⟨k, w, h1, h2, h3⟩ := ih h
      exact ⟨k, w, by omega, h2, h3⟩
    · obtain ⟨w, hw, rfl⟩ := List.mem_map.1 h
      exact ⟨n, w, by omega, List.mem_range.1 hw, rfl⟩

theorem rn_sm {k w : Nat} (h : k ≤ 8) : Sm (rn k w).2 := by
  have := ro_len k 0 w
  exact ⟨by show (ro k 0 w).length ≤ 8; omega, fun x hx => by have := ro_mem k 0 w x hx; omega⟩

theorem all_len : ∀ n, n ≤ 8 → (all n).length ≤ 255 := by decide +kernel
theorem pow8 {k : Nat} (h : k < 8) : 2 ^ k ≤ 128 := by
  revert h; revert k
  decide

end Sr
end Go.Proofs.Ytjlejiefkmimiaa

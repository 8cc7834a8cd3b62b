/-
  Speculation: what runs are useful. Conditions: none.
-/
import Derived.Test.YtjlejiefkmimiaaSpC
set_option linter.unusedVariables false
namespace Go.Proofs.Ytjlejiefkmimiaa
open Eng
namespace Sp

theorem rcl_len {n : Int} : ∀ (l : List Int) (p : Int), rcl n p l = 0 → p + 1 ≤ n → p + 1 + l.length ≤ n
  | [], p, _, h => by simpa using h
  | x :: l, p, h, hp => by
    rw [rcl] at h
    split at h
    · omega
    · split at h
      · omega
      · have := rcl_len l x h (by omega)
        simp only [List.length_cons, Int.natCast_add]
        omega

theorem rcode_len {n last : Int} {w : List Int} (h : rcode n last w = 0) : 0 ≤ last ∧ last < n ∧ (w.length : Int) ≤ last := by
  unfold rcode at h
  split at h
  · omega
  · have := rcl_len w (-1) h (by omega)
    omega

theorem dc_len (l : List T) : ∀ (k : Nat) (i : Int) (a b : List Int), (dc l k i a b).1.length + (dc l k i a b).2.length ≤ a.length + b.length + k
  | 0, i, a, b => by simp [dc]
  | k + 1, i, a, b => by
    rw [dc]
    split
    · simp
    · have := dc_len l k (i + 1) (a ++ [i]) b
      simp only [List.length_append, List.length_singleton] at this
      omega
    · have := dc_len l k (i + 1) a (b ++ [i])
      simp only [List.length_append, List.length_singleton] at this
      omega

/-- The elements below a number. -/
def upto (m : Int) (l : List Int) : List Int := l.filter fun x => decide (x < m)

theorem upto_all {m : Int} : ∀ {l : List Int}, (∀ x, x ∈ l → x < m) → upto m l = l := fun h => List.filter_eq_self.2 fun x hx => decide_eq_true (h x hx)

theorem upto_snoc (m : Int) (l : List Int) (x : Int) : upto m (l ++ [x]) = upto m l ++ (if x < m then [x] else []) := by
  unfold upto
  rw [List.filter_append]
  congr 1
  by_cases h : x < m <;> simp [h]

theorem upto_len (m : Int) (l : List Int) : (upto m l).length ≤ l.length := List.length_filter_le _ _

theorem IndexGe_loop {s : List Int} {m : Int} (hs : s.length ≤ 1000) {K : Int → Prop} (hT : ∀ j : Nat, j < s.length → (∀ x, x ∈ s.take j → x < m) → m ≤ s.getD j 0 → K j) (hF : (∀ x, x ∈ s → x < m) → K (-1)) : ∀ (fu k : Nat), k ≤ s.length → s.length - k < fu → (∀ x, x ∈ s.take k → x < m) →
    L.slices_IndexFunc_i2_v26_L1_R s m s.length fu k (K (-1)) K
  | 0, k, _, h, _ => by omega
  | fu + 1, k, hk, h, hall => by
    show L.slices_IndexFunc_i2_v26_L1_b s m s.length k _ _ _
    unfold L.slices_IndexFunc_i2_v26_L1_b
    rcases Nat.lt_or_ge k s.length with g | g
    · have e : s.getD (k : Int).toNat 0 = s.getD k 0 := rfl
      rw [e]
      refine cond_t (by simp; omega) ⟨inB_of (by omega) (by omega), ⟨?_⟩⟩
      unfold L.speculate_Useful_1_v27_B
      by_cases hx : m ≤ s.getD k 0
      · exact cond_t (decide_eq_true hx) (hT k g hall hx)
      · refine cond_f (decide_eq_false hx) ?_
        show L.slices_IndexFunc_i2_v26_L1_R s m s.length fu (i64 ((k : Int) + 1)) (K (-1)) K
        rw [i64_id (by omega) (by omega)]
        refine IndexGe_loop hs hT hF fu (k + 1) (by omega) (by omega) fun x hx' => ?_
        rw [take_snoc 0 g] at hx'
        rcases List.mem_append.1 hx' with h1 | h1
        · exact hall x h1
        · rw [List.mem_singleton.1 h1]; omega
    · rw [List.take_of_length_le g] at hall
      exact cond_f (by simp; omega) (hF hall)

theorem IndexGe_ok {s : List Int} {m : Int} (hs : s.length ≤ 1000) {K : Int → Prop} (hT : ∀ j : Nat, j < s.length → (∀ x, x ∈ s.take j → x < m) → m ≤ s.getD j 0 → K j) (hF : (∀ x, x ∈ s → x < m) → K (-1)) : L.slices_IndexFunc_i2_v26 s m K :=
  ⟨⟨s.length + 1, IndexGe_loop (K := K) hs hT hF (s.length + 1) 0 (by omega) (by omega) (by simp)⟩⟩

theorem Delete_loop {s : List Int} {m : Int} (hs : s.length ≤ 1000) {K : Int → List Int → Prop} (hK : ∀ (i : Nat) (t : List Int), t.length = s.length → i ≤ s.length → t.take i = upto m s → K i t) : ∀ (fu i j : Nat) (t : List Int), t.length = s.length → i ≤ j → j ≤ s.length → s.length - j < fu → t.take i = upto m (s.take j) → t.drop j = s.drop j →
    L.slices_DeleteFunc_h28_L1_R m fu i j t K
  | 0, i, j, t, _, _, _, h, _, _ => by omega
  | fu + 1, i, j, t, ht, hij, hj, h, h1, h2 => by
    show L.slices_DeleteFunc_h28_L1_b m i j t _ _
    unfold L.slices_DeleteFunc_h28_L1_b
    rcases Nat.lt_or_ge j s.length with g | g
    · have e : t.getD (j : Int).toNat 0 = t.getD j 0 := rfl
      have hd := h2
      rw [drop_cons 0 (show j < t.length by omega), drop_cons 0 g, List.cons.injEq] at hd
      rw [e]
      refine cond_t (by simp; omega) ⟨inB_of (by omega) (by omega), ⟨?_⟩⟩
      unfold L.speculate_Useful_1_v27_B
      by_cases hx : m ≤ t.getD j 0
      · refine cond_f (by rw [decide_eq_true hx]; rfl) ?_
        show L.slices_DeleteFunc_h28_L1_R m fu i (i64 ((j : Int) + 1)) t K
        rw [i64_id (by omega) (by omega)]
        refine Delete_loop hs hK fu i (j + 1) t ht (by omega) (by omega) (by omega) ?_ hd.2
        rw [take_snoc 0 g, upto_snoc, ← hd.1, if_neg (by omega), List.append_nil]
        exact h1
      · refine cond_t (by rw [decide_eq_false hx]; rfl) ⟨inB_of (by omega) (by omega), ?_⟩
        show L.slices_DeleteFunc_h28_L1_R m fu (i64 ((i : Int) + 1)) (i64 ((j : Int) + 1)) (t.set i (t.getD j 0)) K
        rw [i64_id (by omega) (by omega), i64_id (by omega) (by omega)]
        refine Delete_loop hs hK fu (i + 1) (j + 1) _ (by simpa using ht) (by omega) (by omega) (by omega) ?_ ?_
        · rw [take_snoc 0 g, upto_snoc, ← hd.1, if_pos (by omega), ← h1, take_snoc 0 (by rw [List.length_set]; omega), List.take_set_of_le (by omega)]
          congr 2
          rw [List.getD_eq_getElem?_getD, List.getElem?_set_self (by omega)]
          rfl
        · rw [List.drop_set_of_lt (by omega)]
          exact hd.2
    · have : j = s.length := by omega
      subst this
      rw [List.take_length] at h1
      exact cond_f (by simp; omega) (hK i t ht (by omega) h1)

theorem Delete_ok {s : List Int} {m : Int} (hs : s.length ≤ 1000) {K : Nat → Nat → List Int → Int → Prop} (hK : ∀ (n : Nat) (t : List Int), (t.drop 0).take n = upto m s → K 0 n t m) : L.slices_DeleteFunc_h28 s m K := by
  constructor
  unfold L.slices_DeleteFunc_h28_B
  refine IndexGe_ok hs (fun j hj hall hx => ?_) (fun hall => ?_)
  · refine cond_f (by simp) ⟨⟨s.length + 1, ?_⟩⟩
    rw [i64_id (by omega) (by omega)]
    refine Delete_loop hs (fun i t ht hi h => ?_) (s.length + 1) j (j + 1) s rfl (by omega) (by omega) (by omega) ?_ rfl
    · have e : (i : Int).toNat = i := rfl
      rw [e]
      have hl : ((t.take i ++ List.replicate (t.length - i) 0) ++ t.drop (i + (t.length - i))).length = s.length := by
        simp; omega
      refine ⟨by omega, by rw [hl]; omega, hK i _ ?_⟩
      rw [List.drop_zero, List.append_assoc, List.take_append_of_le_length (by rw [List.length_take]; omega), List.take_take, Nat.min_self]
      exact h
    · rw [take_snoc 0 hj, upto_snoc, if_neg (by omega), List.append_nil, upto_all hall]
  · refine cond_t (by decide) (hK _ _ ?_)
    rw [List.drop_zero, List.take_length, upto_all hall]

theorem Upto_loop {l : List Int} {m : Int} (hl : l.length ≤ 1000) {K : List Int → Prop} : ∀ (fu i : Nat) (o : List Int), i ≤ l.length → l.length - i < fu → o.length ≤ i → K (o ++ upto m (l.drop i)) → L.ref8_Upto_L1_R l m fu i o K
  | 0, i, o, _, h, _, _ => by omega
  | fu + 1, i, o, hi, h, ho, hK => by
    show L.ref8_Upto_L1_b l m i o _ _
    unfold L.ref8_Upto_L1_b
    rcases Nat.lt_or_ge i l.length with g | g
    · have e : l.getD (i : Int).toNat 0 = l.getD i 0 := rfl
      have hin : inB (i : Int) l.length := inB_of (by omega) (by omega)
      rw [drop_cons 0 g] at hK
      rw [e]
      refine cond_t (by simp; omega) ⟨hin, ?_⟩
      by_cases hx : l.getD i 0 < m
      · refine cond_t (decide_eq_true hx) ⟨hin, fits_of (by simp; omega), ?_⟩
        show L.ref8_Upto_L1_R l m fu (i64 ((i : Int) + 1)) (o ++ [l.getD i 0]) K
        rw [i64_id (by omega) (by omega)]
        refine Upto_loop hl fu (i + 1) _ (by omega) (by omega) (by simp; omega) ?_
        unfold upto at hK ⊢
        rw [List.filter_cons, if_pos (decide_eq_true hx)] at hK
        rw [List.append_assoc]
        exact hK
      · refine cond_f (decide_eq_false hx) ?_
        show L.ref8_Upto_L1_R l m fu (i64 ((i : Int) + 1)) o K
        rw [i64_id (by omega) (by omega)]
        refine Upto_loop hl fu (i + 1) _ (by omega) (by omega) (by omega) ?_
        unfold upto at hK ⊢
        rw [List.filter_cons, if_neg (by rw [decide_eq_false hx]; simp)] at hK
        exact hK
    · rw [List.drop_eq_nil_of_le g] at hK
      exact cond_f (by simp; omega) (by simpa [upto] using hK)

theorem Upto_ok {l : List Int} {m : Int} (hl : l.length ≤ 1000) {K : List Int → Prop} (hK : K (upto m l)) : L.ref8_Upto l m K :=
  ⟨⟨l.length + 1, Upto_loop hl _ 0 [] (by omega) (by omega) (by simp) (by simpa using hK)⟩⟩

end Sp
end Go.Proofs.Ytjlejiefkmimiaa

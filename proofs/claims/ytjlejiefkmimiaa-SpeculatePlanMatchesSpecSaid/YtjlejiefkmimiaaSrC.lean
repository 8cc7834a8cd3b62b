/-
  slices.SortStableFunc at runs: two sorted parts are merged in place. Conditions: none.
-/
import Derived.Test.YtjlejiefkmimiaaSrB
set_option linter.unusedVariables false
set_option linter.unusedSimpArgs false
namespace Go.Proofs.Ytjlejiefkmimiaa
open Eng Sp
namespace Sr

theorem perm3 {α : Type} (a b c : List α) : (a ++ (b ++ c)).Perm (b ++ (a ++ c)) := by
  rw [← List.append_assoc, ← List.append_assoc b a c]
  exact List.Perm.append_right _ List.perm_append_comm

theorem u64_id {n : Int} (h1 : 0 ≤ n) (h2 : n ≤ 9223372036854775807) : IntKind.wrap .u64 n = n := by
  unfold IntKind.wrap
  simp only [IntKind.bits, IntKind.signed]
  simp
  omega

theorem half_ok (i j : Nat) (h : i + j ≤ 1000000) : i64 ((IntKind.wrap .u64 (i64 ((i : Int) + (j : Int)))).fdiv (2 ^ (min (1 : Int).toNat 64))) = (((i + j) / 2 : Nat) : Int) := by
  rw [i64_id (n := (i : Int) + j) (by omega) (by omega), u64_id (by omega) (by omega)]
  have e : ((2 : Int) ^ (min (1 : Int).toNat 64)) = 2 := by decide
  rw [e, Int.fdiv_eq_ediv_of_nonneg _ (by omega), i64_id (by omega) (by omega)]
  omega

section
variable {B : R → R → Prop} {p : List Int}

theorem s1_loop (o : Ord (cm p) B) {pre Rs post : List R} {x : R} (hf : Fin p (pre ++ (x :: (Rs ++ post)))) (hw : Rs.Pairwise B) (ah : ∀ y, y ∈ Rs → Ah (cm p) B x y) {K : Int → Prop}
    (hK : ∀ u, u ≤ Rs.length → (∀ y, y ∈ Rs.take u → B y x) → (∀ y, y ∈ Rs.drop u → B x y) → K ((pre.length + 1 + u : Nat) : Int)) : ∀ (f u v : Nat), v - u < f → u ≤ v → v ≤ Rs.length → (∀ y, y ∈ Rs.take u → B y x) → (∀ y, y ∈ Rs.drop v → B x y) →
    L.slices_symMergeCmpFunc_h12_L1_R pre.length (pre ++ (x :: (Rs ++ post))) p f ((pre.length + 1 + u : Nat) : Int) ((pre.length + 1 + v : Nat) : Int) K
  | 0, u, v, hv, _, _, _, _ => by omega
  | f + 1, u, v, hv, huv, hvl, h1, h2 => by
    show L.slices_symMergeCmpFunc_h12_L1_b _ _ _ _ _ _ _
    unfold L.slices_symMergeCmpFunc_h12_L1_b
    have hn := hf.n
    simp only [List.length_append, List.length_cons] at hn
    rcases Nat.lt_or_ge u v with g | g
    · rw [half_ok _ _ (by omega)]
      obtain ⟨k, hk⟩ : ∃ k, k = (u + v) / 2 := ⟨_, rfl⟩
      have eh : (pre.length + 1 + u + (pre.length + 1 + v)) / 2 = pre.length + 1 + k := by omega
      rw [eh]
      simp only [Int.toNat_natCast]
      obtain ⟨y, hy⟩ := get_some (l := Rs) (i := k) (by omega)
      have hkl : k < Rs.length := by omega
      have gy : (pre ++ (x :: (Rs ++ post))).getD (pre.length + 1 + k) r0 = y := by
        have e : pre ++ (x :: (Rs ++ post)) = (pre ++ [x]) ++ (Rs ++ post) := by simp
        rw [e]
        exact getD_app (k := k) r0 (by rw [List.getElem?_append_left hkl]; exact hy) (by simp)
      have gx : (pre ++ (x :: (Rs ++ post))).getD pre.length r0 = x := getD_app (k := 0) r0 rfl rfl
      rw [gy, gx]
      have hym : y ∈ Rs := List.mem_of_getElem? hy
      refine cond_t (by simp; omega) ⟨by decide, ⟨by omega, by simp; omega⟩, ⟨by omega, by simp; omega⟩, cmp_ok hf (by simp [hym]) (by simp) ?_⟩
      by_cases hlt : cm p y x < 0
      · have byx := (ah y hym).1 hlt
        refine cond_t (decide_eq_true hlt) ?_
        have es : i64 (((pre.length + 1 + k : Nat) : Int) + 1) = ((pre.length + 1 + (k + 1) : Nat) : Int) := by rw [i64_id (by omega) (by omega)]; omega
        rw [es]
        refine s1_loop o hf hw ah hK f (k + 1) v (by omega) (by omega) hvl (fun z hz => ?_) h2
        obtain ⟨i, hi1, hi2⟩ := mem_take hz
        exact pw_le o.trans hw (by omega) hi2 hy byx
      · have bxy := (ah y hym).2 hlt
        refine cond_f (decide_eq_false hlt) ?_
        refine s1_loop o hf hw ah hK f u k (by omega) (by omega) (by omega) h1 (fun z hz => ?_)
        obtain ⟨i, hi1, hi2, hi3⟩ := mem_drop hz
        exact pw_ge o.trans hw hi1 hy hi3 bxy
    · obtain rfl : u = v := by omega
      exact cond_f (by simp) (hK u hvl h1 h2)

theorem s3_loop (o : Ord (cm p) B) {pre Ls post : List R} {y : R} (hf : Fin p (pre ++ (Ls ++ (y :: post)))) (hw : Ls.Pairwise B) (ah : ∀ x, x ∈ Ls → Ah (cm p) B x y) {K : Int → Prop}
    (hK : ∀ u, u ≤ Ls.length → (∀ x, x ∈ Ls.take u → B x y) → (∀ x, x ∈ Ls.drop u → B y x) → K ((pre.length + u : Nat) : Int)) : ∀ (f u v : Nat), v - u < f → u ≤ v → v ≤ Ls.length → (∀ x, x ∈ Ls.take u → B x y) → (∀ x, x ∈ Ls.drop v → B y x) →
    L.slices_symMergeCmpFunc_h12_L3_R ((pre.length + Ls.length : Nat) : Int) (pre ++ (Ls ++ (y :: post))) p f ((pre.length + u : Nat) : Int) ((pre.length + v : Nat) : Int) K
  | 0, u, v, hv, _, _, _, _ => by omega
  | f + 1, u, v, hv, huv, hvl, h1, h2 => by
    show L.slices_symMergeCmpFunc_h12_L3_b _ _ _ _ _ _ _
    unfold L.slices_symMergeCmpFunc_h12_L3_b
    have hn := hf.n
    simp only [List.length_append, List.length_cons] at hn
    rcases Nat.lt_or_ge u v with g | g
    · rw [half_ok _ _ (by omega)]
      obtain ⟨k, hk⟩ : ∃ k, k = (u + v) / 2 := ⟨_, rfl⟩
      have eh : (pre.length + u + (pre.length + v)) / 2 = pre.length + k := by omega
      rw [eh]
      simp only [Int.toNat_natCast]
      obtain ⟨x, hx⟩ := get_some (l := Ls) (i := k) (by omega)
      have gx : (pre ++ (Ls ++ (y :: post))).getD (pre.length + k) r0 = x := getD_app r0 (by rw [List.getElem?_append_left (by omega)]; exact hx) rfl
      have gy : (pre ++ (Ls ++ (y :: post))).getD (pre.length + Ls.length) r0 = y := by
        rw [← List.append_assoc]
        exact getD_app (k := 0) r0 rfl (by simp)
      rw [gy, gx]
      have hxm : x ∈ Ls := List.mem_of_getElem? hx
      refine cond_t (by simp; omega) ⟨by decide, ⟨by omega, by simp; omega⟩, ⟨by omega, by simp; omega⟩, cmp_ok hf (by simp) (by simp [hxm]) ?_⟩
      by_cases hlt : cm p y x < 0
      · have byx := (ah x hxm).1 hlt
        refine cond_f (by rw [decide_eq_true hlt]; rfl) ?_
        refine s3_loop o hf hw ah hK f u k (by omega) (by omega) (by omega) h1 (fun z hz => ?_)
        obtain ⟨i, hi1, hi2, hi3⟩ := mem_drop hz
        exact pw_ge o.trans hw hi1 hx hi3 byx
      · have bxy := (ah x hxm).2 hlt
        refine cond_t (by rw [decide_eq_false hlt]; rfl) ?_
        have es : i64 (((pre.length + k : Nat) : Int) + 1) = ((pre.length + (k + 1) : Nat) : Int) := by rw [i64_id (by omega) (by omega)]; omega
        rw [es]
        refine s3_loop o hf hw ah hK f (k + 1) v (by omega) (by omega) hvl (fun z hz => ?_) h2
        obtain ⟨i, hi1, hi2⟩ := mem_take hz
        exact pw_le o.trans hw (by omega) hi2 hx bxy
    · obtain rfl : u = v := by omega
      exact cond_f (by simp) (hK u hvl h1 h2)

theorem mv_right {x : R} {rest : List R} {i : Nat} {K : List R → Prop} : ∀ (T pre : List R), (pre ++ (x :: (T ++ rest))).length ≤ 1000 → i = pre.length + T.length + 1 → K (pre ++ (T ++ (x :: rest))) →
    L.slices_symMergeCmpFunc_h12_L2_R i (T.length + 1) pre.length (pre ++ (x :: (T ++ rest))) K
  | [], pre, hn, hi, hK => by
    show L.slices_symMergeCmpFunc_h12_L2_b _ _ _ _ _
    unfold L.slices_symMergeCmpFunc_h12_L2_b
    simp only [List.length_append, List.length_cons] at hn
    simp only [List.length_nil] at hi
    refine cond_f ?_ hK
    rw [i64_id (by omega) (by omega)]
    simp; omega
  | y :: T, pre, hn, hi, hK => by
    show L.slices_symMergeCmpFunc_h12_L2_b _ _ _ _ _
    unfold L.slices_symMergeCmpFunc_h12_L2_b
    simp only [List.length_append, List.length_cons] at hn hi
    have e1 : i64 ((i : Int) - 1) = ((pre.length + T.length + 1 : Nat) : Int) := by rw [i64_id (by omega) (by omega)]; omega
    have e2 : i64 ((pre.length : Int) + 1) = ((pre.length + 1 : Nat) : Int) := by rw [i64_id (by omega) (by omega)]; omega
    rw [e1, e2]
    simp only [eta, Int.toNat_natCast]
    have b1 : inB ((pre.length + 1 : Nat) : Int) (pre ++ (x :: (y :: T ++ rest))).length := ⟨by omega, by simp; omega⟩
    have b0 : inB (pre.length : Int) (pre ++ (x :: (y :: T ++ rest))).length := ⟨by omega, by simp; omega⟩
    refine cond_t (by simp; omega) ⟨b1, b0, b0, by rw [List.length_set]; exact b1, ?_⟩
    have ed : pre ++ (x :: (y :: T ++ rest)) = pre ++ x :: ([] ++ y :: (T ++ rest)) := by simp
    rw [ed, swap1 pre [] (T ++ rest) x y r0 rfl (by simp)]
    have ih := mv_right (x := x) (rest := rest) (i := i) (K := K) T (pre ++ [y]) (by simp; omega) (by simp; omega) (by simpa using hK)
    have el : ((pre ++ [y]).length : Int) = ((pre.length + 1 : Nat) : Int) := by simp
    rw [el] at ih
    have ee : pre ++ y :: ([] ++ x :: (T ++ rest)) = (pre ++ [y]) ++ (x :: (T ++ rest)) := by simp
    rw [ee]
    exact ih

theorem mv_left {y : R} {pre : List R} {K : List R → Prop} : ∀ (n : Nat) (T rest : List R), T.length = n → (pre ++ (T ++ (y :: rest))).length ≤ 1000 → K (pre ++ (y :: (T ++ rest))) →
    L.slices_symMergeCmpFunc_h12_L4_R pre.length (n + 1) ((pre.length + n : Nat) : Int) (pre ++ (T ++ (y :: rest))) K
  | 0, T, rest, hT, hn, hK => by
    obtain rfl := List.length_eq_zero_iff.1 hT
    show L.slices_symMergeCmpFunc_h12_L4_b _ _ _ _ _
    unfold L.slices_symMergeCmpFunc_h12_L4_b
    exact cond_f (by simp) hK
  | n + 1, T, rest, hT, hn, hK => by
    obtain ⟨T, x, rfl⟩ : ∃ a b, T = a ++ [b] := ⟨T.dropLast, T.getLast (by intro h; rw [h] at hT; cases hT), (List.dropLast_concat_getLast _).symm⟩
    have hT1 : T.length = n := by simpa using hT
    show L.slices_symMergeCmpFunc_h12_L4_b _ _ _ _ _
    unfold L.slices_symMergeCmpFunc_h12_L4_b
    have hl : (pre ++ (T ++ [x] ++ (y :: rest))).length = pre.length + (n + 2 + rest.length) := by simp; omega
    rw [hl] at hn
    have e1 : i64 (((pre.length + (n + 1) : Nat) : Int) - 1) = ((pre.length + n : Nat) : Int) := by rw [i64_id (by omega) (by omega)]; omega
    rw [e1]
    simp only [eta, Int.toNat_natCast]
    have b1 : inB ((pre.length + (n + 1) : Nat) : Int) (pre ++ (T ++ [x] ++ (y :: rest))).length := ⟨by omega, by rw [hl]; omega⟩
    have b0 : inB ((pre.length + n : Nat) : Int) (pre ++ (T ++ [x] ++ (y :: rest))).length := ⟨by omega, by rw [hl]; omega⟩
    refine cond_t (by simp; omega) ⟨b0, b1, b1, by rw [List.length_set]; exact b0, ?_⟩
    have ed : pre ++ (T ++ [x] ++ (y :: rest)) = (pre ++ T) ++ x :: ([] ++ y :: rest) := by simp
    rw [ed, swap2 (pre ++ T) [] rest x y r0 (by simp; omega) (by simp; omega)]
    have ih := mv_left (y := y) (pre := pre) (K := K) n T (x :: rest) hT1 (by simp; omega) (by simpa using hK)
    have ee : (pre ++ T) ++ y :: ([] ++ x :: rest) = pre ++ (T ++ (y :: (x :: rest))) := by simp
    rw [ee]
    exact ih

theorem s5_loop (o : Ord (cm p) B) {pre Ls Rs post : List R} (hf : Fin p (pre ++ (Ls ++ (Rs ++ post)))) (hL : Ls.Pairwise B) (hR : Rs.Pairwise B) (ah : ∀ x, x ∈ Ls → ∀ y, y ∈ Rs → Ah (cm p) B x y) {d lo hi : Nat} (hd : d = (Ls.length + Rs.length) / 2) (h1d : 1 ≤ d)
    (hlo : lo = if d < Ls.length then d - Rs.length else 0) (hhi : hi = if d < Ls.length then d else Ls.length) {K : Int → Prop}
    (hK : ∀ s, lo ≤ s → s ≤ hi → (∀ u x y, lo ≤ u → u < s → Ls[u]? = some x → Rs[d - 1 - u]? = some y → B x y) → (∀ u x y, s ≤ u → u < hi → Ls[u]? = some x → Rs[d - 1 - u]? = some y → B y x) → K ((pre.length + s : Nat) : Int)) :
    ∀ (f s t : Nat), t - s < f → lo ≤ s → s ≤ t → t ≤ hi → (∀ u x y, lo ≤ u → u < s → Ls[u]? = some x → Rs[d - 1 - u]? = some y → B x y) → (∀ u x y, t ≤ u → u < hi → Ls[u]? = some x → Rs[d - 1 - u]? = some y → B y x) →
    L.slices_symMergeCmpFunc_h12_L5_R ((pre.length + d + (pre.length + Ls.length) - 1 : Nat) : Int) (pre ++ (Ls ++ (Rs ++ post))) p f ((pre.length + s : Nat) : Int) ((pre.length + t : Nat) : Int) K
  | 0, s, t, hv, _, _, _, _, _ => by omega
  | f + 1, s, t, hv, hs, hst, ht, h1, h2 => by
    show L.slices_symMergeCmpFunc_h12_L5_b _ _ _ _ _ _ _
    unfold L.slices_symMergeCmpFunc_h12_L5_b
    have hn := hf.n
    have hhl : hi ≤ Ls.length := by split at hhi <;> omega
    simp only [List.length_append, List.length_cons] at hn
    rcases Nat.lt_or_ge s t with g | g
    · rw [half_ok _ _ (by omega)]
      obtain ⟨k, hk⟩ : ∃ k, k = (s + t) / 2 := ⟨_, rfl⟩
      have eh : (pre.length + s + (pre.length + t)) / 2 = pre.length + k := by omega
      rw [eh]
      have hkd : k < d ∧ k < Ls.length ∧ d - 1 - k < Rs.length := by split at hhi <;> split at hlo <;> omega
      have ep : i64 (((pre.length + d + (pre.length + Ls.length) - 1 : Nat) : Int) - ((pre.length + k : Nat) : Int)) = ((pre.length + Ls.length + (d - 1 - k) : Nat) : Int) := by rw [i64_id (by omega) (by omega)]; omega
      rw [ep]
      simp only [Int.toNat_natCast]
      obtain ⟨x, hx⟩ := get_some (l := Ls) (i := k) hkd.2.1
      obtain ⟨y, hy⟩ := get_some (l := Rs) (i := d - 1 - k) hkd.2.2
      have gx : (pre ++ (Ls ++ (Rs ++ post))).getD (pre.length + k) r0 = x := getD_app r0 (by rw [List.getElem?_append_left hkd.2.1]; exact hx) rfl
      have gy : (pre ++ (Ls ++ (Rs ++ post))).getD (pre.length + Ls.length + (d - 1 - k)) r0 = y := by
        rw [← List.append_assoc]
        exact getD_app r0 (by rw [List.getElem?_append_left hkd.2.2]; exact hy) (by simp)
      rw [gy, gx]
      have hxm : x ∈ Ls := List.mem_of_getElem? hx
      have hym : y ∈ Rs := List.mem_of_getElem? hy
      refine cond_t (by simp; omega) ⟨by decide, ⟨by omega, by simp; omega⟩, ⟨by omega, by simp; omega⟩, cmp_ok hf (by simp [hym]) (by simp [hxm]) ?_⟩
      by_cases hlt : cm p y x < 0
      · have byx := (ah x hxm y hym).1 hlt
        refine cond_f (by rw [decide_eq_true hlt]; rfl) ?_
        refine s5_loop o hf hL hR ah hd h1d hlo hhi hK f s k (by omega) hs (by omega) (by omega) h1 (fun u x' y' hu1 hu2 hx' hy' => ?_)
        have c1 := pw_ge o.trans hL hu1 hx hx' byx
        have hu3 : d - 1 - u ≤ d - 1 - k := by omega
        exact pw_le o.trans hR hu3 hy' hy c1
      · have bxy := (ah x hxm y hym).2 hlt
        refine cond_t (by rw [decide_eq_false hlt]; rfl) ?_
        have es : i64 (((pre.length + k : Nat) : Int) + 1) = ((pre.length + (k + 1) : Nat) : Int) := by rw [i64_id (by omega) (by omega)]; omega
        rw [es]
        refine s5_loop o hf hL hR ah hd h1d hlo hhi hK f (k + 1) t (by omega) (by omega) (by omega) ht (fun u x' y' hu1 hu2 hx' hy' => ?_) h2
        have c1 := pw_le o.trans hL (by omega) hx' hx bxy
        have hu3 : d - 1 - k ≤ d - 1 - u := by omega
        exact pw_ge o.trans hR hu3 hy hy' c1
    · obtain rfl : s = t := by omega
      exact cond_f (by simp) (hK s hs ht h1 h2)

abbrev RC := Int → Int → Int → List R → List Int → (List R → List Int → Prop) → Prop

theorem sm_v {rc : RC} {b mid en : Int} {K : List R → List Int → Prop} {pre S1 L2 R2 post : List R} (emid : mid = ((pre.length + S1.length : Nat) : Int)) (een : en = ((pre.length + S1.length + L2.length : Nat) : Int)) (eb : b = ((pre.length + S1.length + L2.length + R2.length : Nat) : Int))
    (w1 : L2.Pairwise B) (w2 : R2.Pairwise B)
    (hrc : 0 < L2.length → 0 < R2.length → ∀ K' : List R → List Int → Prop, (∀ S, S.Perm (L2 ++ R2) → S.Pairwise B → K' ((pre ++ S1) ++ (S ++ post)) p) → rc mid en b ((pre ++ S1) ++ (L2 ++ (R2 ++ post))) p K')
    (hK : ∀ S2, S2.Perm (L2 ++ R2) → S2.Pairwise B → K (pre ++ (S1 ++ (S2 ++ post))) p) :
    bif (bif (decide (mid < en)) then (decide (en < b)) else false) then rc mid en b (pre ++ (S1 ++ (L2 ++ (R2 ++ post)))) p K else K (pre ++ (S1 ++ (L2 ++ (R2 ++ post)))) p := by
  by_cases h : 0 < L2.length ∧ 0 < R2.length
  · refine cond_t ?_ ?_
    · rw [decide_eq_true (show mid < en by omega), decide_eq_true (show en < b by omega)]; rfl
    · have := hrc h.1 h.2 K fun S hS hSw => by rw [List.append_assoc]; exact hK S hS hSw
      rw [List.append_assoc] at this
      exact this
  · refine cond_f ?_ ?_
    · by_cases h1 : mid < en
      · rw [decide_eq_true h1, decide_eq_false (show ¬ en < b by omega)]; rfl
      · rw [decide_eq_false h1]; rfl
    · have e : L2 = [] ∨ R2 = [] := by
        rcases Nat.eq_zero_or_pos L2.length with g | g
        · exact .inl (List.length_eq_zero_iff.1 g)
        · exact .inr (List.length_eq_zero_iff.1 (by omega))
      have := hK (L2 ++ R2) (.refl _) (by rcases e with rfl | rfl; exact (by simpa using w2); exact (by simpa using w1))
      rw [List.append_assoc] at this
      exact this

theorem sm_u {rc : RC} {a start mid : Int} {V : List R → List Int → Prop} {pre L1 R1 rest : List R} (ea : a = pre.length) (es : start = ((pre.length + L1.length : Nat) : Int)) (emid : mid = ((pre.length + L1.length + R1.length : Nat) : Int))
    (w1 : L1.Pairwise B) (w2 : R1.Pairwise B)
    (hrc : 0 < L1.length → 0 < R1.length → ∀ K' : List R → List Int → Prop, (∀ S, S.Perm (L1 ++ R1) → S.Pairwise B → K' (pre ++ (S ++ rest)) p) → rc a start mid (pre ++ (L1 ++ (R1 ++ rest))) p K')
    (hV : ∀ S1, S1.Perm (L1 ++ R1) → S1.Pairwise B → V (pre ++ (S1 ++ rest)) p) :
    bif (bif (decide (a < start)) then (decide (start < mid)) else false) then rc a start mid (pre ++ (L1 ++ (R1 ++ rest))) p V else V (pre ++ (L1 ++ (R1 ++ rest))) p := by
  by_cases h : 0 < L1.length ∧ 0 < R1.length
  · refine cond_t ?_ (hrc h.1 h.2 V hV)
    rw [decide_eq_true (show a < start by omega), decide_eq_true (show start < mid by omega)]; rfl
  · refine cond_f ?_ ?_
    · by_cases h1 : a < start
      · rw [decide_eq_true h1, decide_eq_false (show ¬ start < mid by omega)]; rfl
      · rw [decide_eq_false h1]; rfl
    · have e : L1 = [] ∨ R1 = [] := by
        rcases Nat.eq_zero_or_pos L1.length with g | g
        · exact .inl (List.length_eq_zero_iff.1 g)
        · exact .inr (List.length_eq_zero_iff.1 (by omega))
      have := hV (L1 ++ R1) (.refl _) (by rcases e with rfl | rfl; exact (by simpa using w2); exact (by simpa using w1))
      rw [List.append_assoc] at this
      exact this

theorem sm_tail {rc : RC} {a m b mid en start : Int} {data : List R} {K : List R → List Int → Prop} {pre L1 L2 R1 R2 post : List R} (hdata : data = pre ++ ((L1 ++ L2) ++ ((R1 ++ R2) ++ post))) (hn : data.length ≤ 1000)
    (ea : a = pre.length) (es : start = ((pre.length + L1.length : Nat) : Int)) (em : m = ((pre.length + L1.length + L2.length : Nat) : Int)) (een : en = ((pre.length + L1.length + L2.length + R1.length : Nat) : Int)) (emid : mid = ((pre.length + L1.length + R1.length : Nat) : Int)) (eb : b = ((pre.length + L1.length + L2.length + R1.length + R2.length : Nat) : Int))
    (w1 : L1.Pairwise B) (w2 : L2.Pairwise B) (w3 : R1.Pairwise B) (w4 : R2.Pairwise B)
    (hrc1 : 0 < L1.length → 0 < R1.length → ∀ K' : List R → List Int → Prop, (∀ S, S.Perm (L1 ++ R1) → S.Pairwise B → K' (pre ++ (S ++ (L2 ++ (R2 ++ post)))) p) → rc a start mid (pre ++ (L1 ++ (R1 ++ (L2 ++ (R2 ++ post))))) p K')
    (hrc2 : ∀ S1 : List R, S1.Perm (L1 ++ R1) → 0 < L2.length → 0 < R2.length → ∀ K' : List R → List Int → Prop, (∀ S, S.Perm (L2 ++ R2) → S.Pairwise B → K' ((pre ++ S1) ++ (S ++ post)) p) → rc mid en b ((pre ++ S1) ++ (L2 ++ (R2 ++ post))) p K')
    (hK : ∀ S1 S2, S1.Perm (L1 ++ R1) → S1.Pairwise B → S2.Perm (L2 ++ R2) → S2.Pairwise B → K (pre ++ ((S1 ++ S2) ++ post)) p) :
    (bif (bif (decide (start < m)) then (decide (m < en)) else false) then L.slices_rotateCmpFunc_h16 start m en data p (fun data3 m2 => (bif (bif (decide (a < start)) then (decide (start < mid)) else false) then rc a start mid data3 m2 (fun data4 m3 => (bif (bif (decide (mid < en)) then (decide (en < b)) else false) then rc mid en b data4 m3 (fun data5 m4 => K data5 m4) else K data4 m3)) else (bif (bif (decide (mid < en)) then (decide (en < b)) else false) then rc mid en b data3 m2 (fun data6 m5 => K data6 m5) else K data3 m2))) else (bif (bif (decide (a < start)) then (decide (start < mid)) else false) then rc a start mid data p (fun data7 m6 => (bif (bif (decide (mid < en)) then (decide (en < b)) else false) then rc mid en b data7 m6 (fun data8 m7 => K data8 m7) else K data7 m6)) else (bif (bif (decide (mid < en)) then (decide (en < b)) else false) then rc mid en b data p (fun data9 m8 => K data9 m8) else K data p))) := by
  have key : bif (bif (decide (a < start)) then (decide (start < mid)) else false) then rc a start mid (pre ++ (L1 ++ (R1 ++ (L2 ++ (R2 ++ post))))) p (fun data7 m6 => (bif (bif (decide (mid < en)) then (decide (en < b)) else false) then rc mid en b data7 m6 K else K data7 m6)) else (bif (bif (decide (mid < en)) then (decide (en < b)) else false) then rc mid en b (pre ++ (L1 ++ (R1 ++ (L2 ++ (R2 ++ post))))) p K else K (pre ++ (L1 ++ (R1 ++ (L2 ++ (R2 ++ post))))) p) := by
    refine sm_u (B := B) (p := p) (V := fun data7 m6 => (bif (bif (decide (mid < en)) then (decide (en < b)) else false) then rc mid en b data7 m6 K else K data7 m6)) ea es emid w1 w3 hrc1 fun S1 hS1 hw1 => ?_
    have hl := hS1.length_eq
    rw [List.length_append] at hl
    refine sm_v (B := B) (p := p) (by omega) (by omega) (by omega) w2 w4 (hrc2 S1 hS1) fun S2 hS2 hw2 => ?_
    have := hK S1 S2 hS1 hw1 hS2 hw2
    rw [List.append_assoc] at this
    exact this
  by_cases h : 0 < L2.length ∧ 0 < R1.length
  · refine cond_t ?_ ?_
    · rw [decide_eq_true (show start < m by omega), decide_eq_true (show m < en by omega)]; rfl
    · have e : data = (pre ++ L1) ++ (L2 ++ (R1 ++ (R2 ++ post))) := by rw [hdata]; simp
      rw [e] at hn ⊢
      refine rotate_ok (p := p) hn (by rw [es]; simp) (by rw [em]; simp) (by rw [een]; simp) h.1 h.2 ?_
      have e2 : (pre ++ L1) ++ (R1 ++ (L2 ++ (R2 ++ post))) = pre ++ (L1 ++ (R1 ++ (L2 ++ (R2 ++ post)))) := by simp
      rw [e2]
      exact key
  · refine cond_f ?_ ?_
    · by_cases h1 : start < m
      · rw [decide_eq_true h1, decide_eq_false (show ¬ m < en by omega)]; rfl
      · rw [decide_eq_false h1]; rfl
    · have e : L2 = [] ∨ R1 = [] := by
        rcases Nat.eq_zero_or_pos L2.length with g | g
        · exact .inl (List.length_eq_zero_iff.1 g)
        · exact .inr (List.length_eq_zero_iff.1 (by omega))
      have ed : data = pre ++ (L1 ++ (R1 ++ (L2 ++ (R2 ++ post)))) := by
        rw [hdata]
        rcases e with rfl | rfl <;> simp
      rw [ed]
      exact key

theorem sm_R (o : Ord (cm p) B) : ∀ (f : Nat) (pre Ls Rs post : List R) (K : List R → List Int → Prop), Ls.length + Rs.length ≤ f → 0 < Ls.length → 0 < Rs.length → Fin p (pre ++ (Ls ++ (Rs ++ post))) → Ls.Pairwise B → Rs.Pairwise B → (∀ x, x ∈ Ls → ∀ y, y ∈ Rs → Ah (cm p) B x y) →
    (∀ T, T.Perm (Ls ++ Rs) → T.Pairwise B → K (pre ++ (T ++ post)) p) → L.slices_symMergeCmpFunc_h12_R f pre.length ((pre.length + Ls.length : Nat) : Int) ((pre.length + Ls.length + Rs.length : Nat) : Int) (pre ++ (Ls ++ (Rs ++ post))) p K
  | 0, pre, Ls, Rs, post, K, hfu, hl, hr, hf, hL, hR, ah, hK => by omega
  | f + 1, pre, Ls, Rs, post, K, hfu, hl, hr, hf, hL, hR, ah, hK => by
    show L.slices_symMergeCmpFunc_h12_B _ _ _ _ _ _ _
    unfold L.slices_symMergeCmpFunc_h12_B
    have hn := hf.n
    have hn' := hn
    simp only [List.length_append] at hn'
    have e1 : i64 (((pre.length + Ls.length : Nat) : Int) - (pre.length : Int)) = ((Ls.length : Nat) : Int) := by rw [i64_id (by omega) (by omega)]; omega
    have e2 : i64 (((pre.length + Ls.length + Rs.length : Nat) : Int) - ((pre.length + Ls.length : Nat) : Int)) = ((Rs.length : Nat) : Int) := by rw [i64_id (by omega) (by omega)]; omega
    rw [e1, e2]
    by_cases h1 : Ls.length = 1
    · obtain ⟨x, rfl⟩ := List.length_eq_one_iff.1 h1
      refine cond_t (by simp) ⟨Rs.length + 1, ?_⟩
      have hf' : Fin p (pre ++ (x :: (Rs ++ post))) := by simpa using hf
      have := s1_loop o hf' hR (fun y hy => ah x (by simp) y hy) (K := fun i_ => L.slices_symMergeCmpFunc_h12_L2 i_ pre.length (pre ++ (x :: (Rs ++ post))) fun data1 => K data1 p) (fun u hu g1 g2 => ?_) (Rs.length + 1) 0 Rs.length (by omega) (by omega) (Nat.le_refl _) (by simp) (by simp)
      · simpa using this
      · refine ⟨(Rs.take u).length + 1, ?_⟩
        obtain ⟨q1, q2⟩ := ins_left hR g1 g2
        have ed : pre ++ (x :: (Rs ++ post)) = pre ++ (x :: (Rs.take u ++ (Rs.drop u ++ post))) := by rw [← List.append_assoc (Rs.take u), List.take_append_drop]
        rw [ed]
        refine mv_right (K := fun l => K l p) (Rs.take u) pre (by rw [← ed]; exact hf'.n) (by rw [List.length_take]; omega) ?_
        have := hK _ q1 q2
        simpa using this
    · refine cond_f (by simp; omega) ?_
      by_cases h2 : Rs.length = 1
      · obtain ⟨y, rfl⟩ := List.length_eq_one_iff.1 h2
        refine cond_t (by simp) ⟨Ls.length + 1, ?_⟩
        have hf' : Fin p (pre ++ (Ls ++ (y :: post))) := by simpa using hf
        have := s3_loop o hf' hL (fun x hx => ah x hx y (by simp)) (K := fun i_ => L.slices_symMergeCmpFunc_h12_L4 i_ ((pre.length + Ls.length : Nat) : Int) (pre ++ (Ls ++ (y :: post))) fun data1 => K data1 p) (fun u hu g1 g2 => ?_) (Ls.length + 1) 0 Ls.length (by omega) (by omega) (Nat.le_refl _) (by simp) (by simp)
        · simpa using this
        · refine ⟨(Ls.drop u).length + 1, ?_⟩
          obtain ⟨q1, q2⟩ := ins_left hL g1 g2
          have ed : pre ++ (Ls ++ (y :: post)) = (pre ++ Ls.take u) ++ (Ls.drop u ++ (y :: post)) := by rw [List.append_assoc, ← List.append_assoc (Ls.take u), List.take_append_drop]
          rw [ed]
          have ml := mv_left (y := y) (pre := pre ++ Ls.take u) (K := fun l => K l p) (Ls.drop u).length (Ls.drop u) post rfl (by rw [← ed]; exact hf'.n) (by
            have := hK _ (q1.trans (List.perm_append_singleton y Ls).symm) q2
            simpa using this)
          have ei : ((pre ++ Ls.take u).length : Int) = ((pre.length + u : Nat) : Int) := by rw [List.length_append, List.length_take]; omega
          have ek : (((pre ++ Ls.take u).length + (Ls.drop u).length : Nat) : Int) = ((pre.length + Ls.length : Nat) : Int) := by rw [List.length_append, List.length_take, List.length_drop]; omega
          rw [ei, ek] at ml
          exact ml
      · refine cond_f (by simp; omega) ⟨by decide, ?_⟩
        have eh : (pre.length + (pre.length + Ls.length + Rs.length)) / 2 = pre.length + (Ls.length + Rs.length) / 2 := by omega
        rw [half_ok _ _ (by omega), eh]
        obtain ⟨d, hd⟩ : ∃ d, d = (Ls.length + Rs.length) / 2 := ⟨_, rfl⟩
        rw [← hd]
        have en : i64 (((pre.length + d : Nat) : Int) + ((pre.length + Ls.length : Nat) : Int)) = ((pre.length + d + (pre.length + Ls.length) : Nat) : Int) := by rw [i64_id (by omega) (by omega)]; omega
        have ep : i64 (((pre.length + d + (pre.length + Ls.length) : Nat) : Int) - 1) = ((pre.length + d + (pre.length + Ls.length) - 1 : Nat) : Int) := by rw [i64_id (by omega) (by omega)]; omega
        simp only [en, ep]
        obtain ⟨lo, hlo⟩ : ∃ lo, lo = if d < Ls.length then d - Rs.length else 0 := ⟨_, rfl⟩
        obtain ⟨hi, hhi⟩ : ∃ hi, hi = if d < Ls.length then d else Ls.length := ⟨_, rfl⟩
        have search := fun (K' : Int → Prop) (hK' : ∀ s, lo ≤ s → s ≤ hi → (∀ u x y, lo ≤ u → u < s → Ls[u]? = some x → Rs[d - 1 - u]? = some y → B x y) → (∀ u x y, s ≤ u → u < hi → Ls[u]? = some x → Rs[d - 1 - u]? = some y → B y x) → K' ((pre.length + s : Nat) : Int)) =>
          s5_loop o hf hL hR ah hd (by omega) hlo hhi hK' (hi - lo + 1) lo hi (by omega) (Nat.le_refl _) (by split at hlo <;> split at hhi <;> omega) (Nat.le_refl _) (fun u x y g1 g2 => by omega) (fun u x y g1 g2 => by omega)
        have hdb : 2 ≤ d ∧ d < Ls.length + Rs.length := by omega
        have rest : ∀ s, lo ≤ s → s ≤ hi → (∀ u x y, lo ≤ u → u < s → Ls[u]? = some x → Rs[d - 1 - u]? = some y → B x y) → (∀ u x y, s ≤ u → u < hi → Ls[u]? = some x → Rs[d - 1 - u]? = some y → B y x) →
            (fun (a m b mid en start : Int) (data : List R) (rc : RC) => (bif (bif (decide (start < m)) then (decide (m < en)) else false) then L.slices_rotateCmpFunc_h16 start m en data p (fun data3 m2 => (bif (bif (decide (a < start)) then (decide (start < mid)) else false) then rc a start mid data3 m2 (fun data4 m3 => (bif (bif (decide (mid < en)) then (decide (en < b)) else false) then rc mid en b data4 m3 (fun data5 m4 => K data5 m4) else K data4 m3)) else (bif (bif (decide (mid < en)) then (decide (en < b)) else false) then rc mid en b data3 m2 (fun data6 m5 => K data6 m5) else K data3 m2))) else (bif (bif (decide (a < start)) then (decide (start < mid)) else false) then rc a start mid data p (fun data7 m6 => (bif (bif (decide (mid < en)) then (decide (en < b)) else false) then rc mid en b data7 m6 (fun data8 m7 => K data8 m7) else K data7 m6)) else (bif (bif (decide (mid < en)) then (decide (en < b)) else false) then rc mid en b data p (fun data9 m8 => K data9 m8) else K data p)))) pre.length ((pre.length + Ls.length : Nat) : Int) ((pre.length + Ls.length + Rs.length : Nat) : Int) ((pre.length + d : Nat) : Int) (i64 (((pre.length + d + (pre.length + Ls.length) : Nat) : Int) - ((pre.length + s : Nat) : Int))) ((pre.length + s : Nat) : Int) (pre ++ (Ls ++ (Rs ++ post))) (L.slices_symMergeCmpFunc_h12_R f) := by
          intro s hs1 hs2 hs3 hs4
          have hsb : s ≤ d ∧ s ≤ Ls.length ∧ d - s ≤ Rs.length := by split at hlo <;> split at hhi <;> omega
          have spl := sm_split o.trans hL hR hd hlo hhi hs1 hs2 hs3 hs4
          have ee : i64 (((pre.length + d + (pre.length + Ls.length) : Nat) : Int) - ((pre.length + s : Nat) : Int)) = ((pre.length + Ls.length + (d - s) : Nat) : Int) := by rw [i64_id (by omega) (by omega)]; omega
          rw [ee]
          have l1 : (Ls.take s).length = s := by rw [List.length_take]; omega
          have l2 : (Ls.drop s).length = Ls.length - s := List.length_drop
          have r1 : (Rs.take (d - s)).length = d - s := by rw [List.length_take]; omega
          have r2 : (Rs.drop (d - s)).length = Rs.length - (d - s) := List.length_drop
          have eL : Ls.take s ++ Ls.drop s = Ls := List.take_append_drop _ _
          have eR : Rs.take (d - s) ++ Rs.drop (d - s) = Rs := List.take_append_drop _ _
          have wL := hL; have wR := hR
          rw [← eL] at wL
          rw [← eR] at wR
          obtain ⟨wl1, wl2, _⟩ := List.pairwise_append.1 wL
          obtain ⟨wr1, wr2, _⟩ := List.pairwise_append.1 wR
          have hdat : pre ++ (Ls ++ (Rs ++ post)) = pre ++ ((Ls.take s ++ Ls.drop s) ++ ((Rs.take (d - s) ++ Rs.drop (d - s)) ++ post)) := by rw [eL, eR]
          have pm : ∀ S1 : List R, S1.Perm (Ls.take s ++ Rs.take (d - s)) → ((pre ++ S1) ++ (Ls.drop s ++ (Rs.drop (d - s) ++ post))).Perm (pre ++ (Ls ++ (Rs ++ post))) := fun S1 hS1 => by
            rw [hdat, List.append_assoc]
            refine List.Perm.append_left _ ?_
            refine (List.Perm.append_right _ hS1).trans ?_
            simp only [List.append_assoc]
            refine List.Perm.append_left _ ?_
            exact perm3 _ _ _
          refine sm_tail (B := B) (p := p) hdat hn rfl (by rw [l1]) (by rw [l1, l2]; omega) (by rw [l1, l2, r1]; omega) (by rw [l1, r1]; omega) (by rw [l1, l2, r1, r2]; omega) wl1 wl2 wr1 wr2 (fun g1 g2 K' hK' => ?_) (fun S1 hS1 g1 g2 K' hK' => ?_) fun S1 S2 p1 q1 p2 q2 => ?_
          · have ih := sm_R o f pre (Ls.take s) (Rs.take (d - s)) (Ls.drop s ++ (Rs.drop (d - s) ++ post)) K' (by omega) g1 g2 (hf.perm (by have := pm _ (.refl _); simpa using this)) wl1 wr1 (fun x hx y hy => ah x (List.mem_of_mem_take hx) y (List.mem_of_mem_take hy)) hK'
            rw [l1, r1, show pre.length + s + (d - s) = pre.length + d by omega] at ih
            exact ih
          · have ih := sm_R o f (pre ++ S1) (Ls.drop s) (Rs.drop (d - s)) post K' (by omega) g1 g2 (hf.perm (pm S1 hS1)) wl2 wr2 (fun x hx y hy => ah x (List.mem_of_mem_drop hx) y (List.mem_of_mem_drop hy)) hK'
            have hl := hS1.length_eq
            rw [List.length_append, l1, r1] at hl
            rw [List.length_append, l2, r2, hl, show pre.length + (s + (d - s)) = pre.length + d by omega, show pre.length + d + (Ls.length - s) = pre.length + Ls.length + (d - s) by omega, show pre.length + Ls.length + (d - s) + (Rs.length - (d - s)) = pre.length + Ls.length + Rs.length by omega] at ih
            exact ih
          · obtain ⟨j1, j2⟩ := sm_join p1 p2 q1 q2 spl
            rw [eL, eR] at j1
            exact hK _ j1 j2
        by_cases hm : d < Ls.length
        · refine cond_t (by simp; omega) ?_
          have ei : i64 (((pre.length + d + (pre.length + Ls.length) : Nat) : Int) - ((pre.length + Ls.length + Rs.length : Nat) : Int)) = ((pre.length + lo : Nat) : Int) := by rw [if_pos hm] at hlo; rw [i64_id (by omega) (by omega)]; omega
          have ej : ((pre.length + d : Nat) : Int) = ((pre.length + hi : Nat) : Int) := by rw [if_pos hm] at hhi; rw [hhi]
          rw [ei]
          refine ⟨hi - lo + 1, ?_⟩
          have := search (fun st : Int => (fun (a m b mid en start : Int) (data : List R) (rc : RC) => (bif (bif (decide (start < m)) then (decide (m < en)) else false) then L.slices_rotateCmpFunc_h16 start m en data p (fun data3 m2 => (bif (bif (decide (a < start)) then (decide (start < mid)) else false) then rc a start mid data3 m2 (fun data4 m3 => (bif (bif (decide (mid < en)) then (decide (en < b)) else false) then rc mid en b data4 m3 (fun data5 m4 => K data5 m4) else K data4 m3)) else (bif (bif (decide (mid < en)) then (decide (en < b)) else false) then rc mid en b data3 m2 (fun data6 m5 => K data6 m5) else K data3 m2))) else (bif (bif (decide (a < start)) then (decide (start < mid)) else false) then rc a start mid data p (fun data7 m6 => (bif (bif (decide (mid < en)) then (decide (en < b)) else false) then rc mid en b data7 m6 (fun data8 m7 => K data8 m7) else K data7 m6)) else (bif (bif (decide (mid < en)) then (decide (en < b)) else false) then rc mid en b data p (fun data9 m8 => K data9 m8) else K data p)))) pre.length ((pre.length + Ls.length : Nat) : Int) ((pre.length + Ls.length + Rs.length : Nat) : Int) ((pre.length + d : Nat) : Int) (i64 (((pre.length + d + (pre.length + Ls.length) : Nat) : Int) - st)) st (pre ++ (Ls ++ (Rs ++ post))) (L.slices_symMergeCmpFunc_h12_R f)) rest
          rw [← ej] at this
          exact this
        · refine cond_f (by simp; omega) ?_
          have ei : (pre.length : Int) = ((pre.length + lo : Nat) : Int) := by rw [if_neg hm] at hlo; rw [hlo]; rfl
          have ej : ((pre.length + Ls.length : Nat) : Int) = ((pre.length + hi : Nat) : Int) := by rw [if_neg hm] at hhi; rw [hhi]
          refine ⟨hi - lo + 1, ?_⟩
          have := search (fun st : Int => (fun (a m b mid en start : Int) (data : List R) (rc : RC) => (bif (bif (decide (start < m)) then (decide (m < en)) else false) then L.slices_rotateCmpFunc_h16 start m en data p (fun data3 m2 => (bif (bif (decide (a < start)) then (decide (start < mid)) else false) then rc a start mid data3 m2 (fun data4 m3 => (bif (bif (decide (mid < en)) then (decide (en < b)) else false) then rc mid en b data4 m3 (fun data5 m4 => K data5 m4) else K data4 m3)) else (bif (bif (decide (mid < en)) then (decide (en < b)) else false) then rc mid en b data3 m2 (fun data6 m5 => K data6 m5) else K data3 m2))) else (bif (bif (decide (a < start)) then (decide (start < mid)) else false) then rc a start mid data p (fun data7 m6 => (bif (bif (decide (mid < en)) then (decide (en < b)) else false) then rc mid en b data7 m6 (fun data8 m7 => K data8 m7) else K data7 m6)) else (bif (bif (decide (mid < en)) then (decide (en < b)) else false) then rc mid en b data p (fun data9 m8 => K data9 m8) else K data p)))) pre.length ((pre.length + Ls.length : Nat) : Int) ((pre.length + Ls.length + Rs.length : Nat) : Int) ((pre.length + d : Nat) : Int) (i64 (((pre.length + d + (pre.length + Ls.length) : Nat) : Int) - st)) st (pre ++ (Ls ++ (Rs ++ post))) (L.slices_symMergeCmpFunc_h12_R f)) rest
          rw [← ei, ← ej] at this
          exact this

theorem symMerge_ok (o : Ord (cm p) B) {pre Ls Rs post : List R} {a m b : Int} {K : List R → List Int → Prop} (ea : a = pre.length) (em : m = ((pre.length + Ls.length : Nat) : Int)) (eb : b = ((pre.length + Ls.length + Rs.length : Nat) : Int)) (hl : 0 < Ls.length) (hr : 0 < Rs.length) (hf : Fin p (pre ++ (Ls ++ (Rs ++ post)))) (hL : Ls.Pairwise B) (hR : Rs.Pairwise B)
    (ah : ∀ x, x ∈ Ls → ∀ y, y ∈ Rs → Ah (cm p) B x y) (hK : ∀ T, T.Perm (Ls ++ Rs) → T.Pairwise B → K (pre ++ (T ++ post)) p) : L.slices_symMergeCmpFunc_h12 a m b (pre ++ (Ls ++ (Rs ++ post))) p K := by
  subst ea em eb
  exact ⟨_, sm_R o _ pre Ls Rs post K (Nat.le_refl _) hl hr hf hL hR ah hK⟩

end
end Sr
end Go.Proofs.Ytjlejiefkmimiaa

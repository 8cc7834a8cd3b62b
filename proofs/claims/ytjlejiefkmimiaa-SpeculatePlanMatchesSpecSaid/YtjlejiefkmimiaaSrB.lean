/-
  slices.SortStableFunc at runs, of any length: insertion in blocks, rotations. Conditions: none.
-/
import Derived.Test.YtjlejiefkmimiaaSpY
import Derived.Test.YtjlejiefkmimiaaSrA
set_option linter.unusedVariables false
set_option linter.unusedSimpArgs false
namespace Go.Proofs.Ytjlejiefkmimiaa
open Eng Sp
namespace Sr

abbrev R := Int × List Int
abbrev r0 : R := (0, [])

/-- What is compared. -/
def ky (p : List Int) (x : R) : Int := chs x.1 x.2 0 p 1
def cm (p : List Int) (a b : R) : Int := if ky p b < ky p a then -1 else if ky p a < ky p b then 1 else 0

theorem cm_neg {p : List Int} {a b : R} : cm p a b < 0 ↔ ky p b < ky p a := by
  unfold cm
  split
  · simp_all
  · split <;> simp_all

/-- What the sort is about: few runs, short ones, few numbers. -/
structure Fin (p : List Int) (l : List R) : Prop where
  np : p.length ≤ 1000
  n : l.length ≤ 1000
  w : ∀ x, x ∈ l → x.2.length ≤ 1000

theorem Fin.perm {p : List Int} {l m : List R} (h : Fin p l) (hp : m.Perm l) : Fin p m := ⟨h.np, by rw [hp.length_eq]; exact h.n, fun x hx => h.w x (hp.mem_iff.1 hx)⟩

theorem cmp_ok {p : List Int} {l : List R} (h : Fin p l) {a b : R} (ha : a ∈ l) (hb : b ∈ l) {K : Int → Prop} (hK : K (cm p a b)) : L.speculate_Plan_1_v4 a.1 a.2 b.1 b.2 p K :=
  ⟨chance_ok h.np (h.w b hb) (chance_ok h.np (h.w a ha) (Compare_ok hK))⟩

theorem eta (x : R) : (x.1, x.2) = x := rfl

theorem getD_app {p q : List R} {i k : Nat} (d : R) {x : R} (hx : q[k]? = some x) (hi : i = p.length + k) : (p ++ q).getD i d = x := by
  subst hi
  rw [List.getD_eq_getElem?_getD, List.getElem?_append_right (by omega), Nat.add_sub_cancel_left, hx]
  rfl

section
variable {B : R → R → Prop} {p : List Int}

theorem ins_inner (o : Ord (cm p) B) {pre post : List R} {x : R} {K : List R → Prop} : ∀ (n : Nat) (S1 S2 : List R), S1.length = n → Fin p (pre ++ (S1 ++ (x :: (S2 ++ post)))) → (S1 ++ S2).Pairwise B → (∀ s, s ∈ S2 → B x s) → (∀ s, s ∈ S1 → Ah (cm p) B s x) →
    (∀ T, T.Perm (x :: (S1 ++ S2)) → T.Pairwise B → K (pre ++ (T ++ post))) → L.slices_insertionSortCmpFunc_h10_L2_R pre.length p (n + 1) ((pre.length + n : Nat) : Int) (pre ++ (S1 ++ (x :: (S2 ++ post)))) K
  | 0, S1, S2, hn, hf, hw, h2, h1, hK => by
    obtain rfl := List.length_eq_zero_iff.1 hn
    show L.slices_insertionSortCmpFunc_h10_L2_b _ _ _ _ _ _
    unfold L.slices_insertionSortCmpFunc_h10_L2_b
    have hd : decide (((pre.length + 0 : Nat) : Int) > (pre.length : Int)) = false := by simp
    rw [hd]
    refine ⟨fun h => absurd h (by decide), fun h => absurd h (by decide), cond_f rfl ?_⟩
    exact hK (x :: S2) (.refl _) (List.pairwise_cons.2 ⟨h2, hw⟩)
  | n + 1, S1, S2, hn, hf, hw, h2, h1, hK => by
    obtain ⟨S1, y, rfl⟩ : ∃ a b, S1 = a ++ [b] := ⟨S1.dropLast, S1.getLast (by intro h; rw [h] at hn; cases hn), (List.dropLast_concat_getLast _).symm⟩
    have hn1 : S1.length = n := by simpa using hn
    show L.slices_insertionSortCmpFunc_h10_L2_b _ _ _ _ _ _
    unfold L.slices_insertionSortCmpFunc_h10_L2_b
    have hlen := hf.n
    simp only [List.length_append, List.length_cons, List.length_nil] at hlen
    have ej : i64 (((pre.length + (n + 1) : Nat) : Int) - 1) = ((pre.length + n : Nat) : Int) := by rw [i64_id (by omega) (by omega)]; omega
    rw [ej]
    simp only [eta, Int.toNat_natCast]
    have hl : (pre ++ (S1 ++ [y] ++ (x :: (S2 ++ post)))).length = pre.length + (n + 2 + S2.length + post.length) := by simp; omega
    have e1 : pre ++ (S1 ++ [y] ++ (x :: (S2 ++ post))) = (pre ++ S1) ++ y :: ([] ++ x :: (S2 ++ post)) := by simp
    have gx : (pre ++ (S1 ++ [y] ++ (x :: (S2 ++ post)))).getD (pre.length + (n + 1)) r0 = x := by
      rw [e1]
      exact getD_app (k := 1) r0 rfl (by simp; omega)
    have gy : (pre ++ (S1 ++ [y] ++ (x :: (S2 ++ post)))).getD (pre.length + n) r0 = y := by
      rw [e1]
      exact getD_app (k := 0) r0 rfl (by simp; omega)
    have b1 : inB ((pre.length + (n + 1) : Nat) : Int) (pre ++ (S1 ++ [y] ++ (x :: (S2 ++ post)))).length := ⟨by omega, by rw [hl]; omega⟩
    have b2 : inB ((pre.length + n : Nat) : Int) (pre ++ (S1 ++ [y] ++ (x :: (S2 ++ post)))).length := ⟨by omega, by rw [hl]; omega⟩
    refine ⟨fun _ => b1, fun _ => b2, cond_t (by simp [okAll]; omega) ?_⟩
    have hx : x ∈ pre ++ (S1 ++ [y] ++ (x :: (S2 ++ post))) := by simp
    have hy : y ∈ pre ++ (S1 ++ [y] ++ (x :: (S2 ++ post))) := by simp
    have ah := h1 y (by simp)
    have hswap : ((pre ++ (S1 ++ [y] ++ (x :: (S2 ++ post)))).set (pre.length + (n + 1)) ((pre ++ (S1 ++ [y] ++ (x :: (S2 ++ post)))).getD (pre.length + n) r0)).set (pre.length + n) ((pre ++ (S1 ++ [y] ++ (x :: (S2 ++ post)))).getD (pre.length + (n + 1)) r0) = pre ++ (S1 ++ (x :: ((y :: S2) ++ post))) := by
      rw [e1, swap2 (pre ++ S1) [] (S2 ++ post) y x r0 (by simp; omega) (by simp; omega)]
      simp
    rw [hswap, gx, gy]
    refine cmp_ok hf hx hy ?_
    by_cases hlt : cm p x y < 0
    · refine cond_t (decide_eq_true hlt) ⟨b2, b1, b1, by rw [List.length_set]; exact b2, ?_⟩
      have bxy := ah.1 hlt
      have hpw : (S1 ++ y :: S2).Pairwise B := by simpa using hw
      refine ins_inner o n S1 (y :: S2) hn1 ?_ hpw (fun s hs => ?_) (fun s hs => h1 s (by simp [hs])) fun T hT hTw => ?_
      · refine hf.perm ?_
        refine List.Perm.append_left _ ?_
        simp only [List.append_assoc, List.singleton_append, List.cons_append]
        refine List.Perm.append_left _ (.swap _ _ _)
      · rcases List.mem_cons.1 hs with rfl | hs
        · exact bxy
        · exact h2 s hs
      · refine hK T (hT.trans ?_) hTw
        simp
    · refine cond_f (decide_eq_false hlt) ?_
      have byx := ah.2 hlt
      have hpw : (S1 ++ y :: S2).Pairwise B := by simpa using hw
      have e2 : pre ++ (S1 ++ [y] ++ (x :: (S2 ++ post))) = pre ++ ((S1 ++ [y] ++ (x :: S2)) ++ post) := by simp
      rw [e2]
      obtain ⟨q1, q2, q3⟩ := List.pairwise_append.1 hw
      refine hK _ ?_ ?_
      · exact List.perm_middle
      · refine List.pairwise_append.2 ⟨q1, List.pairwise_cons.2 ⟨h2, q2⟩, fun u hu v hv => ?_⟩
        have buy : u = y ∨ B u y := by
          rcases List.mem_append.1 hu with hu | hu
          · exact .inr ((List.pairwise_append.1 q1).2.2 u hu y (by simp))
          · exact .inl (by simpa using hu)
        rcases List.mem_cons.1 hv with rfl | hv
        · rcases buy with rfl | g
          · exact byx
          · exact o.trans _ _ _ g byx
        · exact q3 u hu v hv

theorem ins_outer (o : Ord (cm p) B) {pre post : List R} {K : List R → Prop} : ∀ (rest S : List R), Fin p (pre ++ (S ++ (rest ++ post))) → (S ++ rest).Pairwise (Ah (cm p) B) → S.Pairwise B → 0 < S.length →
    (∀ T, T.Perm (S ++ rest) → T.Pairwise B → K (pre ++ (T ++ post))) → L.slices_insertionSortCmpFunc_h10_L1_R pre.length ((pre.length + (S.length + rest.length) : Nat) : Int) p (rest.length + 1) ((pre.length + S.length : Nat) : Int) (pre ++ (S ++ (rest ++ post))) K
  | [], S, hf, ha, hw, h0, hK => by
    show L.slices_insertionSortCmpFunc_h10_L1_b _ _ _ _ _ _ _
    unfold L.slices_insertionSortCmpFunc_h10_L1_b
    refine cond_f (by simp) ?_
    have := hK S (by simp) hw
    simpa using this
  | x :: rest, S, hf, ha, hw, h0, hK => by
    show L.slices_insertionSortCmpFunc_h10_L1_b _ _ _ _ _ _ _
    unfold L.slices_insertionSortCmpFunc_h10_L1_b
    have hlen := hf.n
    simp only [List.length_append, List.length_cons] at hlen
    refine cond_t (by simp; omega) ⟨S.length + 1, ?_⟩
    have e0 : pre ++ (S ++ (x :: rest ++ post)) = pre ++ (S ++ (x :: ([] ++ (rest ++ post)))) := by simp
    rw [e0]
    obtain ⟨a1, a2, a3⟩ := List.pairwise_append.1 ha
    refine ins_inner o S.length S [] rfl (by rw [← e0]; exact hf) (by simpa using hw) (fun s hs => by simp at hs) (fun s hs => a3 s hs x (by simp)) fun T hT hTw => ?_
    have hT' : T.Perm (S ++ [x]) := hT.trans (by rw [List.append_nil]; exact (List.perm_append_singleton x S).symm)
    have ih := ins_outer o (pre := pre) (post := post) (K := K) rest T (hf.perm ?_) ?_ hTw (by rw [hT'.length_eq]; simp) fun U hU hUw => hK U (hU.trans ?_) hUw
    · rw [hT'.length_eq, List.length_append, List.length_singleton] at ih
      have es : i64 (((pre.length + S.length : Nat) : Int) + 1) = ((pre.length + (S.length + 1) : Nat) : Int) := by rw [i64_id (by omega) (by omega)]; omega
      rw [es]
      have el : S.length + (x :: rest).length = S.length + 1 + rest.length := by simp; omega
      rw [el]
      exact ih
    · refine List.Perm.append_left _ ?_
      refine (List.Perm.append_right _ hT').trans ?_
      simp
    · obtain ⟨b1, b2⟩ := List.pairwise_cons.1 a2
      refine List.pairwise_append.2 ⟨pw_ah o hTw, b2, fun u hu v hv => ?_⟩
      rcases List.mem_append.1 (hT'.mem_iff.1 hu) with hu | hu
      · exact a3 u hu v (by simp [hv])
      · rw [List.mem_singleton.1 hu]; exact b1 v hv
    · refine (List.Perm.append_right _ hT').trans ?_
      simp

theorem insertion_ok (o : Ord (cm p) B) {pre seg post : List R} {a b : Int} (ea : a = pre.length) (eb : b = ((pre.length + seg.length : Nat) : Int)) (hf : Fin p (pre ++ (seg ++ post))) (ha : seg.Pairwise (Ah (cm p) B)) {K : List R → List Int → Prop}
    (hK : ∀ T, T.Perm seg → T.Pairwise B → K (pre ++ (T ++ post)) p) : L.slices_insertionSortCmpFunc_h10 a b (pre ++ (seg ++ post)) p K := by
  subst ea eb
  constructor
  unfold L.slices_insertionSortCmpFunc_h10_B
  have hlen := hf.n
  simp only [List.length_append] at hlen
  have es : i64 ((pre.length : Int) + 1) = ((pre.length + 1 : Nat) : Int) := by rw [i64_id (by omega) (by omega)]; omega
  rw [es]
  cases seg with
  | nil =>
    refine ⟨1, ?_⟩
    show L.slices_insertionSortCmpFunc_h10_L1_b _ _ _ _ _ _ _
    unfold L.slices_insertionSortCmpFunc_h10_L1_b
    exact cond_f (by simp; omega) (hK [] (.refl _) .nil)
  | cons x rest =>
    have h := ins_outer o (pre := pre) (post := post) (K := fun l => K l p) rest [x] (by simpa using hf) (by simpa using ha) (by simp) (by simp) (by simpa using hK)
    have el : (x :: rest).length = [x].length + rest.length := by simp; omega
    rw [el]
    exact ⟨rest.length + 1, h⟩

theorem swapRange_loop {post : List R} {a b n : Nat} {K : List R → Prop} : ∀ (A C pre M : List R) (i : Nat), A.length = C.length → (pre ++ (A ++ (M ++ (C ++ post)))).length ≤ 1000 → pre.length = a + i → b + i = pre.length + A.length + M.length → n = i + A.length →
    K (pre ++ (C ++ (M ++ (A ++ post)))) → L.slices_swapRangeCmpFunc_h17_L1_R a b n (A.length + 1) i (pre ++ (A ++ (M ++ (C ++ post)))) K
  | [], C, pre, M, i, hl, hn, h1, h2, h3, hK => by
    obtain rfl := List.length_eq_zero_iff.1 hl.symm
    show L.slices_swapRangeCmpFunc_h17_L1_b _ _ _ _ _ _ _
    unfold L.slices_swapRangeCmpFunc_h17_L1_b
    exact cond_f (by simp at h3; simp; omega) hK
  | x :: A, [], pre, M, i, hl, hn, h1, h2, h3, hK => by cases hl
  | x :: A, y :: C, pre, M, i, hl, hn, h1, h2, h3, hK => by
    show L.slices_swapRangeCmpFunc_h17_L1_b _ _ _ _ _ _ _
    unfold L.slices_swapRangeCmpFunc_h17_L1_b
    simp only [List.length_append, List.length_cons] at hn hl h2 h3
    have ea : i64 ((a : Int) + i) = ((a + i : Nat) : Int) := by rw [i64_id (by omega) (by omega)]; omega
    have eb : i64 ((b : Int) + i) = ((b + i : Nat) : Int) := by rw [i64_id (by omega) (by omega)]; omega
    rw [ea, eb]
    simp only [eta, Int.toNat_natCast]
    have hlen : (pre ++ (x :: A ++ (M ++ (y :: C ++ post)))).length = pre.length + (A.length + 1 + (M.length + (C.length + 1 + post.length))) := by simp; omega
    have b1 : inB ((a + i : Nat) : Int) (pre ++ (x :: A ++ (M ++ (y :: C ++ post)))).length := ⟨by omega, by rw [hlen]; omega⟩
    have b2 : inB ((b + i : Nat) : Int) (pre ++ (x :: A ++ (M ++ (y :: C ++ post)))).length := ⟨by omega, by rw [hlen]; omega⟩
    refine cond_t (by simp; omega) ⟨b2, b1, b1, by rw [List.length_set]; exact b2, ?_⟩
    have e1 : pre ++ (x :: A ++ (M ++ (y :: C ++ post))) = pre ++ x :: ((A ++ M) ++ y :: (C ++ post)) := by simp
    rw [e1, swap1 pre (A ++ M) (C ++ post) x y r0 (by omega) (by simp; omega)]
    have ih := swapRange_loop (post := post) (a := a) (b := b) (n := n) (K := K) A C (pre ++ [y]) (M ++ [x]) (i + 1) (by omega) (by simp; omega) (by simp; omega) (by simp; omega) (by omega) (by simpa using hK)
    have e2 : pre ++ y :: ((A ++ M) ++ x :: (C ++ post)) = (pre ++ [y]) ++ (A ++ ((M ++ [x]) ++ (C ++ post))) := by simp
    have es : i64 ((i : Int) + 1) = ((i + 1 : Nat) : Int) := by rw [i64_id (by omega) (by omega)]; omega
    rw [e2, es]
    exact ih

theorem swapRange_ok {pre A M C post : List R} {a b n : Int} (hl : A.length = C.length) (hn : (pre ++ (A ++ (M ++ (C ++ post)))).length ≤ 1000) (ea : a = pre.length) (eb : b = ((pre.length + A.length + M.length : Nat) : Int)) (en : n = A.length) {K : List R → List Int → Prop}
    (hK : K (pre ++ (C ++ (M ++ (A ++ post)))) p) : L.slices_swapRangeCmpFunc_h17 a b n (pre ++ (A ++ (M ++ (C ++ post)))) p K := by
  subst ea eb en
  constructor
  unfold L.slices_swapRangeCmpFunc_h17_B
  exact ⟨A.length + 1, swapRange_loop (K := fun l => K l p) A C pre M 0 hl hn rfl rfl (by omega) hK⟩

theorem rotate_loop {m : Nat} {K : Int → List R → List Int → Prop} : ∀ (f : Nat) (X Y pre post : List R), X.length + Y.length ≤ f → (pre ++ (X ++ (Y ++ post))).length ≤ 1000 → m = pre.length + X.length → 0 < X.length → 0 < Y.length →
    (∀ (X' Y' pre' post' : List R), X'.length = Y'.length → m = pre'.length + X'.length → pre' ++ (Y' ++ (X' ++ post')) = pre ++ (Y ++ (X ++ post)) → K X'.length (pre' ++ (X' ++ (Y' ++ post'))) p) →
    L.slices_rotateCmpFunc_h16_L1_R m f X.length Y.length (pre ++ (X ++ (Y ++ post))) p K
  | 0, X, Y, pre, post, hf, hn, hm, hx, hy, hK => by omega
  | f + 1, X, Y, pre, post, hf, hn, hm, hx, hy, hK => by
    show L.slices_rotateCmpFunc_h16_L1_b _ _ _ _ _ _ _
    unfold L.slices_rotateCmpFunc_h16_L1_b
    simp only [List.length_append] at hn
    have e1 : i64 ((m : Int) - (X.length : Int)) = ((pre.length : Nat) : Int) := by rw [i64_id (by omega) (by omega)]; omega
    have e2 : i64 (i64 ((m : Int) + (Y.length : Int)) - (X.length : Int)) = ((m + Y.length : Nat) : Int) - X.length := by rw [i64_id (n := (m : Int) + Y.length) (by omega) (by omega), i64_id (by omega) (by omega)]; omega
    by_cases he : X.length = Y.length
    · refine cond_f (by rw [he]; simp) ?_
      exact hK X Y pre post he hm rfl
    · refine cond_t (by simp; omega) ?_
      by_cases hgt : Y.length < X.length
      · refine cond_t (by simp; omega) ?_
        obtain ⟨X1, X2, rfl, hX1⟩ : ∃ X1 X2, X = X1 ++ X2 ∧ X1.length = Y.length := ⟨X.take Y.length, X.drop Y.length, (List.take_append_drop _ _).symm, by simp; omega⟩
        rw [List.length_append] at hn hm hf hx hgt he e1
        have ed : pre ++ (X1 ++ X2 ++ (Y ++ post)) = pre ++ (X1 ++ (X2 ++ (Y ++ post))) := by simp
        rw [ed]
        rw [List.length_append, e1]
        refine swapRange_ok (p := p) hX1 (by simp; omega) rfl (by omega) (by omega) ?_
        have es : i64 (((X1.length + X2.length : Nat) : Int) - (Y.length : Int)) = ((X2.length : Nat) : Int) := by rw [i64_id (by omega) (by omega)]; omega
        rw [es]
        have ih := rotate_loop (m := m) (K := K) f X2 X1 (pre ++ Y) post (by omega) (by simp; omega) (by simp; omega) (by omega) (by omega) fun X' Y' pre' post' g1 g2 g3 => hK X' Y' pre' post' g1 g2 (by rw [g3]; simp)
        rw [← hX1]
        have e3 : pre ++ (Y ++ (X2 ++ (X1 ++ post))) = (pre ++ Y) ++ (X2 ++ (X1 ++ post)) := by simp
        rw [e3]
        exact ih
      · refine cond_f (by simp; omega) ?_
        obtain ⟨Y1, Y2, rfl, hY2⟩ : ∃ Y1 Y2, Y = Y1 ++ Y2 ∧ Y2.length = X.length := ⟨Y.take (Y.length - X.length), Y.drop (Y.length - X.length), (List.take_append_drop _ _).symm, by simp; omega⟩
        rw [List.length_append] at hn hf hy hgt he e2
        have ed : pre ++ (X ++ (Y1 ++ Y2 ++ post)) = pre ++ (X ++ (Y1 ++ (Y2 ++ post))) := by simp
        rw [ed]
        rw [List.length_append, e1, e2]
        refine swapRange_ok (p := p) hY2.symm (by simp; omega) rfl (by omega) rfl ?_
        have es : i64 (((Y1.length + Y2.length : Nat) : Int) - (X.length : Int)) = ((Y1.length : Nat) : Int) := by rw [i64_id (by omega) (by omega)]; omega
        rw [es]
        have ih := rotate_loop (m := m) (K := K) f Y2 Y1 pre (X ++ post) (by omega) (by simp; omega) (by omega) (by omega) (by omega) fun X' Y' pre' post' g1 g2 g3 => hK X' Y' pre' post' g1 g2 (by rw [g3]; simp)
        rw [← hY2]
        exact ih

theorem rotate_ok {pre X Y post : List R} {a m b : Int} (hn : (pre ++ (X ++ (Y ++ post))).length ≤ 1000) (ea : a = pre.length) (em : m = ((pre.length + X.length : Nat) : Int)) (eb : b = ((pre.length + X.length + Y.length : Nat) : Int)) (hx : 0 < X.length) (hy : 0 < Y.length)
    {K : List R → List Int → Prop} (hK : K (pre ++ (Y ++ (X ++ post))) p) : L.slices_rotateCmpFunc_h16 a m b (pre ++ (X ++ (Y ++ post))) p K := by
  subst ea em eb
  constructor
  unfold L.slices_rotateCmpFunc_h16_B
  have hn' := hn
  simp only [List.length_append] at hn'
  have e1 : i64 (((pre.length + X.length : Nat) : Int) - (pre.length : Int)) = ((X.length : Nat) : Int) := by rw [i64_id (by omega) (by omega)]; omega
  have e2 : i64 (((pre.length + X.length + Y.length : Nat) : Int) - ((pre.length + X.length : Nat) : Int)) = ((Y.length : Nat) : Int) := by rw [i64_id (by omega) (by omega)]; omega
  rw [e1, e2]
  refine ⟨X.length + Y.length, rotate_loop (X.length + Y.length) X Y pre post (Nat.le_refl _) hn rfl hx hy fun X' Y' pre' post' g1 g2 g3 => ?_⟩
  have hl : (pre' ++ (Y' ++ (X' ++ post'))).length = (pre ++ (Y ++ (X ++ post))).length := by rw [g3]
  simp only [List.length_append] at hl
  have e3 : i64 (((pre.length + X.length : Nat) : Int) - (X'.length : Int)) = ((pre'.length : Nat) : Int) := by rw [i64_id (by omega) (by omega)]; omega
  rw [e3]
  have ed : pre' ++ (X' ++ (Y' ++ post')) = pre' ++ (X' ++ ([] ++ (Y' ++ post'))) := by simp
  rw [ed]
  refine swapRange_ok (p := p) g1 (by simp; omega) rfl (by rw [List.length_nil]; omega) rfl ?_
  have ef : pre' ++ (Y' ++ ([] ++ (X' ++ post'))) = pre ++ (Y ++ (X ++ post)) := by simpa using g3
  rw [ef]
  exact hK

end
end Sr
end Go.Proofs.Ytjlejiefkmimiaa

/-
  What deleting from a row of the pool computes, and rolling a version back. Conditions: none.
-/
import Derived.Test.YtgedmbndmdphdaaRoA
import Derived.Test.YtgedmbndmdphdaaRoC
namespace Go.Proofs.Ytgedmbndmdphdaa
open Eng
namespace Ro

theorem idx_loop {xs : List Int} {v : Int} (hb : xs.length < 4611686018427387904) {K : Int → Prop} (h1 : (∀ x, x ∈ xs → x ≠ v) → K (-1))
    (h2 : ∀ j : Nat, j < xs.length → (∀ x, x ∈ xs.take j → x ≠ v) → xs.getD j 0 = v → K j) : ∀ (fu i : Nat), i ≤ xs.length → xs.length - i < fu → (∀ x, x ∈ xs.take i → x ≠ v) →
    L.slices_IndexFunc_v8_L1_R xs v xs.length fu i (K (-1)) K
  | 0, i, _, h, _ => by omega
  | fu + 1, i, hi, h, hn => by
    show L.slices_IndexFunc_v8_L1_b xs v xs.length i _ (K (-1)) K
    unfold L.slices_IndexFunc_v8_L1_b
    rcases Nat.lt_or_ge i xs.length with g | g
    · refine cond_t (by simp; omega) ⟨⟨by omega, by omega⟩, ⟨?_⟩⟩
      show bif (_ == v) then _ else _
      rw [Int.toNat_natCast]
      by_cases hv : xs.getD i 0 = v
      · exact cond_t (beq_iff_eq.2 hv) (h2 i g hn hv)
      · refine cond_f (beq_eq_false_iff_ne.2 hv) ?_
        rw [i64_id (by omega) (by omega)]
        have := idx_loop hb h1 h2 fu (i + 1) g (by omega) (fun x hx => by
          rw [List.take_add_one, List.mem_append] at hx
          rcases hx with hx | hx
          · exact hn x hx
          · rw [List.getElem?_eq_getElem g] at hx
            simp only [Option.toList_some, List.mem_singleton] at hx
            subst hx
            rw [getD_get _ _ _ g] at hv
            exact hv)
        exact_mod_cast this
    · obtain rfl : i = xs.length := by omega
      refine cond_f (by simp) (h1 fun x hx => hn x ?_)
      rw [List.take_length]
      exact hx

theorem idx_ok {xs : List Int} {v : Int} (hb : xs.length < 4611686018427387904) {K : Int → Prop} (h1 : (∀ x, x ∈ xs → x ≠ v) → K (-1))
    (h2 : ∀ j : Nat, j < xs.length → (∀ x, x ∈ xs.take j → x ≠ v) → xs.getD j 0 = v → K j) : L.slices_IndexFunc_v8 xs v K :=
  ⟨⟨⟨xs.length + 1, by exact_mod_cast idx_loop hb h1 h2 (xs.length + 1) 0 (by omega) (by omega) (by simp)⟩⟩⟩

/-- What is left of a row. -/
def del (v : Int) (xs : List Int) : List Int := xs.filter fun x => !(x == v)

theorem del_le (v : Int) (xs : List Int) : (del v xs).length ≤ xs.length := List.length_filter_le _ _

theorem del_take (v : Int) (xs : List Int) (j : Nat) (hj : j < xs.length) : del v (xs.take (j + 1)) = del v (xs.take j) ++ (bif xs.getD j 0 == v then [] else [xs.getD j 0]) := by
  unfold del
  rw [List.take_add_one, List.filter_append, List.getElem?_eq_getElem hj, getD_get _ _ _ hj]
  cases h : (xs[j] == v) <;> simp [h]

theorem del_loop {h : Hd} {xs : List Int} {v : Int} {m0 : Pool} (hb : xs.length < 4611686018427387904) {K : Int → Pool → Prop}
    (hK : ∀ m ws, Lies m h ws → ws.length = xs.length → ws.take (del v xs).length = del v xs → Keeps h m0 m → K (del v xs).length m) :
    ∀ (fu i j : Nat) (m : Pool) (ws : List Int), Lies m h ws → ws.length = xs.length → j ≤ xs.length → i ≤ j → xs.length - j < fu → i = (del v (xs.take j)).length → ws.take i = del v (xs.take j) → ws.drop j = xs.drop j → Keeps h m0 m →
    L.slices_DeleteFunc_h10_L1_R h v fu i j m K
  | 0, i, j, m, ws, _, _, _, _, hf, _, _, _, _ => by omega
  | fu + 1, i, j, m, ws, hl, hw, hj, hij, hf, hi, ht, hd, hk => by
    show L.slices_DeleteFunc_h10_L1_b h v i j m _ K
    unfold L.slices_DeleteFunc_h10_L1_b
    have hn : h.n = xs.length := by rw [hl.1, hw]
    rcases Nat.lt_or_ge j xs.length with g | g
    · obtain ⟨p1, p2⟩ := hl.place (i := j) (by omega)
      refine cond_t (by simp; omega) ⟨⟨⟨by omega, by omega⟩, hl.ok⟩, ?_, ⟨?_⟩⟩
      · rw [Int.toNat_natCast]; exact p1
      · rw [Int.toNat_natCast, p2]
        have hx : ws.getD j 0 = xs.getD j 0 := by
          have := congrArg (fun l => l[0]?) hd
          simp only [List.getElem?_drop, Nat.add_zero] at this
          simp [List.getD, this]
        rw [hx]
        have hdt := del_take v xs j g
        rw [i64_id (n := (j : Int) + 1) (by omega) (by omega), i64_id (n := (i : Int) + 1) (by omega) (by omega)]
        show bif !(xs.getD j 0 == v) then _ else _
        cases hv : xs.getD j 0 == v with
        | true =>
          rw [hv] at hdt
          simp only [cond_true, List.append_nil] at hdt
          have := del_loop hb hK fu i (j + 1) m ws hl hw g (by omega) (by omega) (by rw [hdt]; exact hi) (by rw [hdt]; exact ht) (by
            rw [← List.drop_drop (i := 1) (j := j), ← List.drop_drop (i := 1) (j := j), hd]) hk
          exact_mod_cast this
        | false =>
          rw [hv] at hdt
          simp only [cond_false] at hdt
          obtain ⟨q1, _⟩ := hl.place (i := i) (by omega)
          obtain ⟨q3, q4⟩ := hl.wr (i := i) (by omega) (xs.getD j 0)
          refine ⟨⟨⟨by omega, by omega⟩, hl.ok⟩, by rw [Int.toNat_natCast]; exact q1, ?_⟩
          rw [Int.toNat_natCast]
          have hlen : i < ws.length := by omega
          have := del_loop hb hK fu (i + 1) (j + 1) _ (ws.set i (xs.getD j 0)) q3 (by simp [hw]) g (by omega) (by omega) (by rw [hdt, List.length_append, ← hi]; rfl) (by
            rw [hdt, List.take_add_one, List.take_set_of_le (Nat.le_refl _), ht]
            simp [hlen]) (by
            rw [List.drop_set_of_lt (by omega)]
            rw [← List.drop_drop (i := 1) (j := j), ← List.drop_drop (i := 1) (j := j), hd]) (hk.trans q4)
          exact_mod_cast this
    · obtain rfl : j = xs.length := by omega
      refine cond_f (by simp; omega) ?_
      rw [List.take_length] at hi ht
      subst hi
      exact hK m ws hl hw ht hk

theorem del_none {v : Int} {xs : List Int} (h : ∀ x, x ∈ xs → x ≠ v) : del v xs = xs := List.filter_eq_self.2 fun x hx => by simp [h x hx]

theorem Delete_ok {h : Hd} {xs : List Int} {v : Int} {m : Pool} (hb : xs.length < 4611686018427387904) (hl : Lies m h xs) {K : Hd → Pool → Int → Prop}
    (hK : ∀ h' m', Lies m' h' (del v xs) → blk h' = blk h → Keeps h m m' → K h' m' v) : L.slices_DeleteFunc_h10 h m v K := by
  refine ⟨⟨hl.ok, ?_⟩⟩
  rw [hl.get]
  refine idx_ok hb (fun hn => ?_) fun j hj hn hv => ?_
  · refine cond_t rfl ?_
    refine hK h m ?_ rfl (Keeps.refl _ _)
    rw [del_none hn]
    exact hl
  · refine cond_f (beq_eq_false_iff_ne.2 (by omega)) ⟨⟨xs.length + 1, ?_⟩⟩
    rw [i64_id (by omega) (by omega)]
    have hdt := del_take v xs j hj
    rw [hv] at hdt
    simp only [beq_self_eq_true, cond_true, List.append_nil] at hdt
    rw [del_none hn] at hdt
    have hjl : (xs.take j).length = j := by simp; omega
    have := del_loop (h := h) (xs := xs) (v := v) (m0 := m) hb (K := fun i_ m' => ((0 ≤ i_ ∧ i_ ≤ ((h.n : Nat) : Int)) ∧ h.n ≤ h.c) ∧ (Hd.ok m' (Hd.cut h i_.toNat h.n)) ∧ ((0 ≤ i_ ∧ i_ ≤ ((h.n : Nat) : Int)) ∧ h.n ≤ h.c) ∧ K (Hd.cut h 0 i_.toNat) (pwr m' ((Hd.cut h i_.toNat h.n).a) 0 (List.replicate ((Hd.cut h i_.toNat h.n).n) 0)) v)
      (fun m' ws hl' hw ht hk => by
        have hle := del_le v xs
        have hn' : h.n = xs.length := hl.1
        obtain ⟨c1, c2, c3, c4⟩ := hl'.cut (i := (del v xs).length) (by omega)
        rw [Int.toNat_natCast]
        refine ⟨⟨⟨by omega, by omega⟩, hl.2.1⟩, c1, ⟨⟨by omega, by omega⟩, hl.2.1⟩, ?_⟩
        rw [ht] at c2
        exact hK _ _ c2 c4 (hk.trans c3)) (xs.length + 1) j (j + 1) m xs hl rfl hj (by omega) (by omega) (by rw [hdt, hjl]) (by rw [hdt]) rfl (Keeps.refl _ _)
    exact_mod_cast this

/-- A ring without a version. -/
def bk (v : Int) (r : Row) : Row := (del v r.1, bif r.2.1 == v then (0, (0, 0)) else r.2)

theorem set_take {α} (l : List α) (f : α → α) (d : α) (i : Nat) (hi : i < l.length) : ((l.take i).map f ++ l.drop i).set i (f (l.getD i d)) = (l.take (i + 1)).map f ++ l.drop (i + 1) := by
  have h1 : ((l.take i).map f).length = i := by simp; omega
  rw [List.set_append, if_neg (by omega), h1, Nat.sub_self, List.drop_eq_getElem_cons hi, List.set_cons_zero, List.take_add_one, List.getElem?_eq_getElem hi, getD_get _ _ _ hi, List.map_append, List.append_assoc]
  rfl

theorem back_loop {a : List Row} {v : Int} (hlen : a.length < 4611686018427387904) (hb : ∀ r, r ∈ a → r.1.length < 4611686018427387904) {K : Pool → List Hrow → Int → Prop}
    (hK : ∀ m hs, Lay m hs (a.map (bk v)) → K m hs v) : ∀ (fu i : Nat) (m : Pool) (hs : List Hrow), Lay m hs ((a.take i).map (bk v) ++ a.drop i) → i ≤ a.length → a.length - i < fu →
    L.rollout_plan_back_h6_L1_R a.length fu i m hs v K
  | 0, i, m, hs, _, _, h => by omega
  | fu + 1, i, m, hs, hS, hi, h => by
    show L.rollout_plan_back_h6_L1_b a.length i m hs v _ K
    unfold L.rollout_plan_back_h6_L1_b
    rcases Nat.lt_or_ge i a.length with g | g
    · have hal : ((a.take i).map (bk v) ++ a.drop i).length = a.length := by simp; omega
      have hsl : hs.length = a.length := by rw [hS.len, hal]
      have hgi : ((a.take i).map (bk v) ++ a.drop i).getD i ([], (0, (0, 0))) = a.getD i ([], (0, (0, 0))) := by
        have h1 : ((a.take i).map (bk v)).length = i := by simp; omega
        simp only [List.getD]
        rw [List.getElem?_append_right (by omega), h1, Nat.sub_self, List.getElem?_drop, Nat.add_zero]
      obtain ⟨hl, he⟩ := hS.row i (by omega)
      rw [hgi] at hl he
      have hbi := hb (a.getD i ([], (0, (0, 0)))) (by rw [getD_get _ _ _ g]; exact List.getElem_mem _)
      refine cond_t (by simp; omega) ⟨⟨by omega, by omega⟩, ?_⟩
      rw [Int.toNat_natCast, i64_id (by omega) (by omega)]
      have stepOk : ∀ m' hs', Lay m' hs' ((a.take (i + 1)).map (bk v) ++ a.drop (i + 1)) → L.rollout_plan_back_h6_L1_R a.length fu (i + 1 : Int) m' hs' v K := fun m' hs' hS' => by
        have := back_loop hlen hb hK fu (i + 1) m' hs' hS' g (by omega)
        exact_mod_cast this
      -- the header, and what the ring holds else
      have fin : ∀ r : Int × (Int × Int), r = (bk v (a.getD i ([], (0, (0, 0))))).2 → ∀ hs1, hs1 = hs.set i ((hs.getD i (Hd.nil, (0, (0, 0)))).1, r) →
          L.rollout_plan_back_h6_J2 i m hs1 v (fun m' hs' v' => L.rollout_plan_back_h6_L1_R a.length fu (i + 1 : Int) m' hs' v' K) := by
        intro r hr hs1 hh
        have hg : hs1.getD i (Hd.nil, (0, (0, 0))) = ((hs.getD i (Hd.nil, (0, (0, 0)))).1, r) := by rw [hh, getD_set_same _ _ _ _ (by omega)]
        constructor
        unfold L.rollout_plan_back_h6_J2_B
        rw [hg]
        refine Delete_ok hbi hl fun h' m' d1 d2 d3 => ?_
        have hu := hS.upd (i := i) (by omega) (r := r) d1 (.inl d2) d3
        have e2 : (del v (a.getD i ([], (0, (0, 0)))).1, r) = bk v (a.getD i ([], (0, (0, 0)))) := by rw [hr]; rfl
        rw [e2, set_take _ _ _ _ g] at hu
        have := stepOk _ _ hu
        rw [hh, List.set_set]
        exact this
      rw [he]
      cases hv : (a.getD i ([], (0, (0, 0)))).2.1 == v with
      | true =>
        refine fin (0, (0, 0)) (by simp only [bk, hv, cond_true]) _ ?_
        rw [getD_set_same _ _ _ _ (by omega), List.set_set]
      | false =>
        refine fin (a.getD i ([], (0, (0, 0)))).2 (by simp only [bk, hv, cond_false]) _ ?_
        have : ((hs.getD i (Hd.nil, (0, (0, 0)))).1, (a.getD i ([], (0, (0, 0)))).2) = hs.getD i (Hd.nil, (0, (0, 0))) := by rw [← he]
        rw [this, getD_get _ _ _ (by omega)]
        simp
    · obtain rfl : i = a.length := by omega
      refine cond_f (by simp) (hK m hs ?_)
      simpa using hS

theorem back_ok {a : List Row} {v : Int} {m : Pool} {hs : List Hrow} (hS : Lay m hs a) (hlen : a.length < 4611686018427387904) (hb : ∀ r, r ∈ a → r.1.length < 4611686018427387904) {p p1 p2 p3 : Int} {K : Pool → Int → Int → Int → Int → List Hrow → Prop}
    (hK : ∀ m hs, Lay m hs (a.map (bk v)) → K m p p1 p2 p3 hs) : L.rollout_plan_back_h6 v m p p1 p2 p3 hs K := by
  refine ⟨⟨⟨a.length + 1, ?_⟩⟩⟩
  rw [hS.len]
  have := back_loop hlen hb (K := fun m m1 _ => K m p p1 p2 p3 m1) (v := v) (fun m hs h => hK m hs h) (a.length + 1) 0 m hs (by simpa using hS) (by omega) (by omega)
  exact_mod_cast this

end Ro
end Go.Proofs.Ytgedmbndmdphdaa

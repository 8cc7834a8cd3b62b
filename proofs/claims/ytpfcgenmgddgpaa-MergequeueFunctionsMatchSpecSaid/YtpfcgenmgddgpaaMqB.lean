/-
  What deleting from a row of the pool computes. Conditions: none.
-/
import Derived.Test.YtpfcgenmgddgpaaMqA
import Derived.Test.YtpfcgenmgddgpaaLift
import Derived.Test.YtpfcgenmgddgpaaEngX
namespace Go.Proofs.Ytpfcgenmgddgpaa
open Eng
namespace Mq

theorem getD_get {α} (l : List α) (i : Nat) (d : α) (h : i < l.length) : l.getD i d = l[i] := by simp [List.getD, h]

theorem idx_loop {xs : List Int} {v p : Int} {q r s : Bool} (hb : xs.length < 4611686018427387904) {K : Int → Prop} (h1 : (∀ x, x ∈ xs → x ≠ v) → K (-1))
    (h2 : ∀ j : Nat, j < xs.length → (∀ x, x ∈ xs.take j → x ≠ v) → xs.getD j 0 = v → K j) : ∀ (fu i : Nat), i ≤ xs.length → xs.length - i < fu → (∀ x, x ∈ xs.take i → x ≠ v) →
    L.slices_IndexFunc_v14_L1_R xs v p q r s xs.length fu i (K (-1)) K
  | 0, i, _, h, _ => by omega
  | fu + 1, i, hi, h, hn => by
    show L.slices_IndexFunc_v14_L1_b xs v p q r s xs.length i _ (K (-1)) K
    unfold L.slices_IndexFunc_v14_L1_b
    rcases Nat.lt_or_ge i xs.length with g | g
    · refine cond_t (by simp; omega) ⟨⟨by omega, by omega⟩, ⟨?_⟩⟩
      show bif (_ == v) then _ else _
      rw [Int.toNat_natCast]
      by_cases hv : xs.getD i 0 = v
      · exact cond_t (beq_iff_eq.2 hv) (h2 i g hn hv)
      · refine cond_f (beq_eq_false_iff_ne.2 hv) ?_
        rw [i64_id (by omega) (by omega)]
        have := idx_loop (p := p) (q := q) (r := r) (s := s) hb h1 h2 fu (i + 1) g (by omega) (fun x hx => by
          rw [List.take_add_one, List.mem_append] at hx
          rcases hx with hx | hx
          · exact hn x hx
          · rw [List.getElem?_eq_getElem g] at hx
            simp only [Option.toList_some, List.mem_singleton] at hx
            subst hx
            rw [getD_get _ _ _ g] at hv
            exact hv)
        exact_mod_cast this
    · obtain rfl : i = xs.length := by omega
      refine cond_f (by simp) (h1 fun x hx => hn x ?_)
      rw [List.take_length]
      exact hx

theorem idx_ok {xs : List Int} {v p : Int} {q r s : Bool} (hb : xs.length < 4611686018427387904) {K : Int → Prop} (h1 : (∀ x, x ∈ xs → x ≠ v) → K (-1))
    (h2 : ∀ j : Nat, j < xs.length → (∀ x, x ∈ xs.take j → x ≠ v) → xs.getD j 0 = v → K j) : L.slices_IndexFunc_v14 xs v p q r s K :=
  ⟨⟨⟨xs.length + 1, by exact_mod_cast idx_loop (p := p) (q := q) (r := r) (s := s) hb h1 h2 (xs.length + 1) 0 (by omega) (by omega) (by simp)⟩⟩⟩

/-- What is left of a row. -/
def del (v : Int) (xs : List Int) : List Int := xs.filter fun x => !(x == v)

theorem del_le (v : Int) (xs : List Int) : (del v xs).length ≤ xs.length := List.length_filter_le _ _

theorem del_take (v : Int) (xs : List Int) (j : Nat) (hj : j < xs.length) : del v (xs.take (j + 1)) = del v (xs.take j) ++ (bif xs.getD j 0 == v then [] else [xs.getD j 0]) := by
  unfold del
  rw [List.take_add_one, List.filter_append, List.getElem?_eq_getElem hj, getD_get _ _ _ hj]
  cases h : (xs[j] == v) <;> simp [h]

theorem del_loop {h : Hd} {xs : List Int} {v p : Int} {q r s : Bool} {m0 : Pool} (hb : xs.length < 4611686018427387904) {K : Int → Pool → Prop}
    (hK : ∀ m ws, Lies m h ws → ws.length = xs.length → ws.take (del v xs).length = del v xs → Keeps h m0 m → K (del v xs).length m) :
    ∀ (fu i j : Nat) (m : Pool) (ws : List Int), Lies m h ws → ws.length = xs.length → j ≤ xs.length → i ≤ j → xs.length - j < fu → i = (del v (xs.take j)).length → ws.take i = del v (xs.take j) → ws.drop j = xs.drop j → Keeps h m0 m →
    L.slices_DeleteFunc_h16_L1_R h v p q r s fu i j m K
  | 0, i, j, m, ws, _, _, _, _, hf, _, _, _, _ => by omega
  | fu + 1, i, j, m, ws, hl, hw, hj, hij, hf, hi, ht, hd, hk => by
    show L.slices_DeleteFunc_h16_L1_b h v p q r s i j m _ K
    unfold L.slices_DeleteFunc_h16_L1_b
    have hn : h.n = xs.length := by rw [hl.1, hw]
    rcases Nat.lt_or_ge j xs.length with g | g
    · obtain ⟨p1, p2⟩ := hl.place (i := j) (by omega)
      refine cond_t (by simp; omega) ⟨⟨⟨by omega, by omega⟩, hl.ok⟩, ?_, ⟨?_⟩⟩
      · rw [Int.toNat_natCast]; exact p1
      · rw [Int.toNat_natCast, p2]
        have hx : ws.getD j 0 = xs.getD j 0 := by
          have := congrArg (fun l => l[0]?) hd
          simp only [List.getElem?_drop, Nat.add_zero] at this
          simp [List.getD, this]
        rw [hx]
        have hdt := del_take v xs j g
        rw [i64_id (n := (j : Int) + 1) (by omega) (by omega), i64_id (n := (i : Int) + 1) (by omega) (by omega)]
        show bif !(xs.getD j 0 == v) then _ else _
        cases hv : xs.getD j 0 == v with
        | true =>
          rw [hv] at hdt
          simp only [cond_true, List.append_nil] at hdt
          have := del_loop (p := p) (q := q) (r := r) (s := s) hb hK fu i (j + 1) m ws hl hw g (by omega) (by omega) (by rw [hdt]; exact hi) (by rw [hdt]; exact ht) (by
            rw [← List.drop_drop (i := 1) (j := j), ← List.drop_drop (i := 1) (j := j), hd]) hk
          exact_mod_cast this
        | false =>
          rw [hv] at hdt
          simp only [cond_false] at hdt
          obtain ⟨q1, _⟩ := hl.place (i := i) (by omega)
          obtain ⟨q3, q4⟩ := hl.wr (i := i) (by omega) (xs.getD j 0)
          refine ⟨⟨⟨by omega, by omega⟩, hl.ok⟩, by rw [Int.toNat_natCast]; exact q1, ?_⟩
          rw [Int.toNat_natCast]
          have hlen : i < ws.length := by omega
          have := del_loop (p := p) (q := q) (r := r) (s := s) hb hK fu (i + 1) (j + 1) _ (ws.set i (xs.getD j 0)) q3 (by simp [hw]) g (by omega) (by omega) (by rw [hdt, List.length_append, ← hi]; rfl) (by
            rw [hdt, List.take_add_one, List.take_set_of_le (Nat.le_refl _), ht]
            simp [hlen]) (by
            rw [List.drop_set_of_lt (by omega)]
            rw [← List.drop_drop (i := 1) (j := j), ← List.drop_drop (i := 1) (j := j), hd]) (hk.trans q4)
          exact_mod_cast this
    · obtain rfl : j = xs.length := by omega
      refine cond_f (by simp; omega) ?_
      rw [List.take_length] at hi ht
      subst hi
      exact hK m ws hl hw ht hk

theorem del_none {v : Int} {xs : List Int} (h : ∀ x, x ∈ xs → x ≠ v) : del v xs = xs := List.filter_eq_self.2 fun x hx => by simp [h x hx]

theorem Delete_ok {h : Hd} {xs : List Int} {v p : Int} {q r s : Bool} {g : Hd} {m : Pool} (hb : xs.length < 4611686018427387904) (hl : Lies m h xs) {K : Hd → Pool → Int → Int → Bool → Bool → Bool → Hd → Prop}
    (hK : ∀ h' m', Lies m' h' (del v xs) → blk h' = blk h → Keeps h m m' → K h' m' v p q r s g) : L.slices_DeleteFunc_h16 h m v p q r s g K := by
  refine ⟨⟨hl.ok, ?_⟩⟩
  rw [hl.get]
  refine idx_ok hb (fun hn => ?_) fun j hj hn hv => ?_
  · refine cond_t rfl ?_
    refine hK h m ?_ rfl (Keeps.refl _ _)
    rw [del_none hn]
    exact hl
  · refine cond_f (beq_eq_false_iff_ne.2 (by omega)) ⟨⟨xs.length + 1, ?_⟩⟩
    rw [i64_id (by omega) (by omega)]
    have hdt := del_take v xs j hj
    rw [hv] at hdt
    simp only [beq_self_eq_true, cond_true, List.append_nil] at hdt
    rw [del_none hn] at hdt
    have hjl : (xs.take j).length = j := by simp; omega
    have := del_loop (h := h) (xs := xs) (v := v) (p := p) (q := q) (r := r) (s := s) (m0 := m) hb (K := fun i_ m' => ((0 ≤ i_ ∧ i_ ≤ ((h.n : Nat) : Int)) ∧ h.n ≤ h.c) ∧ (Hd.ok m' (Hd.cut h i_.toNat h.n)) ∧ ((0 ≤ i_ ∧ i_ ≤ ((h.n : Nat) : Int)) ∧ h.n ≤ h.c) ∧ K (Hd.cut h 0 i_.toNat) (pwr m' ((Hd.cut h i_.toNat h.n).a) 0 (List.replicate ((Hd.cut h i_.toNat h.n).n) 0)) v p q r s g)
      (fun m' ws hl' hw ht hk => by
        have hle := del_le v xs
        have hn' : h.n = xs.length := hl.1
        obtain ⟨c1, c2, c3, c4⟩ := hl'.cut (i := (del v xs).length) (by omega)
        rw [Int.toNat_natCast]
        refine ⟨⟨⟨by omega, by omega⟩, hl.2.1⟩, c1, ⟨⟨by omega, by omega⟩, hl.2.1⟩, ?_⟩
        rw [ht] at c2
        exact hK _ _ c2 c4 (hk.trans c3)) (xs.length + 1) j (j + 1) m xs hl rfl hj (by omega) (by omega) (by rw [hdt, hjl]) (by rw [hdt]) rfl (Keeps.refl _ _)
    exact_mod_cast this

end Mq
end Go.Proofs.Ytpfcgenmgddgpaa

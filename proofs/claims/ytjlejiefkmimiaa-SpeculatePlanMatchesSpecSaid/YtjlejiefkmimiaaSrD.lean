/-
  slices.SortStableFunc at runs: whatever the length, the result is the sorted order. Conditions: none.
-/
import Derived.Test.YtjlejiefkmimiaaSrC
set_option linter.unusedVariables false
set_option linter.unusedSimpArgs false
namespace Go.Proofs.Ytjlejiefkmimiaa
open Eng Sp
namespace Sr
section
variable {B : R → R → Prop} {p : List Int}

theorem st1_loop (o : Ord (cm p) B) {n : Nat} {K : Int → List R → List Int → Prop} : ∀ (f : Nat) (pre post : List R), post.length < f → n = pre.length + post.length → Fin p (pre ++ post) → (pre ++ post).Pairwise (Ah (cm p) B) → Pre B 20 pre →
    (∀ pre' post' : List R, (pre' ++ post').Perm (pre ++ post) → (pre' ++ post').Pairwise (Ah (cm p) B) → Pre B 20 pre' → post'.length < 20 → K pre'.length (pre' ++ post') p) →
    L.slices_stableCmpFunc_h9_L1_R n 20 f pre.length ((pre.length + 20 : Nat) : Int) (pre ++ post) p K
  | 0, pre, post, hfu, hn, hf, ha, hp, hK => by omega
  | f + 1, pre, post, hfu, hn, hf, ha, hp, hK => by
    show L.slices_stableCmpFunc_h9_L1_b _ _ _ _ _ _ _ _
    unfold L.slices_stableCmpFunc_h9_L1_b
    have hlen := hf.n
    rw [List.length_append] at hlen
    rcases Nat.lt_or_ge post.length 20 with g | g
    · exact cond_f (by simp; omega) (hK pre post (.refl _) ha hp g)
    · obtain ⟨seg, rest, rfl, hs⟩ : ∃ s r, post = s ++ r ∧ s.length = 20 := ⟨post.take 20, post.drop 20, (List.take_append_drop _ _).symm, by simp; omega⟩
      rw [List.length_append] at hn hfu hlen
      obtain ⟨a1, a2, a3⟩ := List.pairwise_append.1 ha
      obtain ⟨b1, b2, b3⟩ := List.pairwise_append.1 a2
      refine cond_t (by simp; omega) (insertion_ok o rfl (by omega) hf b1 fun T hT hTw => ?_)
      have hTl : T.length = 20 := by rw [hT.length_eq]; exact hs
      have es : i64 (((pre.length + 20 : Nat) : Int) + 20) = (((pre ++ T).length + 20 : Nat) : Int) := by rw [List.length_append, i64_id (by omega) (by omega)]; omega
      have es2 : ((pre.length + 20 : Nat) : Int) = ((pre ++ T).length : Int) := by rw [List.length_append]; omega
      rw [es, es2, ← List.append_assoc]
      have pm : ((pre ++ T) ++ rest).Perm (pre ++ (seg ++ rest)) := by rw [List.append_assoc]; exact perm_mid hT
      refine st1_loop o f (pre ++ T) rest (by omega) (by rw [List.length_append]; omega) (hf.perm pm) ?_ (hp.snoc hTl hTw) fun pre' post' q1 q2 q3 q4 => hK pre' post' (q1.trans pm) q2 q3 q4
      rw [List.append_assoc]
      exact pw_mid ha hT (pw_ah o hTw)

theorem st3_loop (o : Ord (cm p) B) {n bs : Nat} (hb : 0 < bs) (hb2 : bs ≤ 1000) {K : Int → List R → List Int → Prop} : ∀ (f : Nat) (pre post : List R), post.length < f → n = pre.length + post.length → Fin p (pre ++ post) → (pre ++ post).Pairwise (Ah (cm p) B) → Pre B (2 * bs) pre → Bks B bs post →
    (∀ pre' post' : List R, (pre' ++ post').Perm (pre ++ post) → (pre' ++ post').Pairwise (Ah (cm p) B) → Pre B (2 * bs) pre' → Bks B bs post' → post'.length < 2 * bs → K pre'.length (pre' ++ post') p) →
    L.slices_stableCmpFunc_h9_L3_R n bs f pre.length ((pre.length + 2 * bs : Nat) : Int) (pre ++ post) p K
  | 0, pre, post, hfu, hn, hf, ha, hp, hk, hK => by omega
  | f + 1, pre, post, hfu, hn, hf, ha, hp, hk, hK => by
    show L.slices_stableCmpFunc_h9_L3_b _ _ _ _ _ _ _ _
    unfold L.slices_stableCmpFunc_h9_L3_b
    have hlen := hf.n
    rw [List.length_append] at hlen
    rcases Nat.lt_or_ge post.length (2 * bs) with g | g
    · exact cond_f (by simp; omega) (hK pre post (.refl _) ha hp hk g)
    · obtain ⟨x, y, rest, rfl, hx, hy, wx, wy, hk'⟩ := hk.two g hb
      simp only [List.length_append] at hn hfu hlen g
      obtain ⟨a1, a2, a3⟩ := List.pairwise_append.1 ha
      obtain ⟨b1, b2, b3⟩ := List.pairwise_append.1 a2
      have e1 : i64 ((pre.length : Int) + (bs : Int)) = ((pre.length + x.length : Nat) : Int) := by rw [i64_id (by omega) (by omega)]; omega
      rw [e1]
      refine cond_t (by simp; omega) (symMerge_ok o rfl rfl (by omega) (by omega) (by omega) hf wx wy (fun u hu v hv => b3 u hu v (List.mem_append_left _ hv)) fun T hT hTw => ?_)
      have hTl : T.length = 2 * bs := by rw [hT.length_eq, List.length_append]; omega
      have es : i64 (((pre.length + 2 * bs : Nat) : Int) + i64 ((2 : Int) * (bs : Int))) = (((pre ++ T).length + 2 * bs : Nat) : Int) := by rw [List.length_append, i64_id (n := 2 * (bs : Int)) (by omega) (by omega), i64_id (by omega) (by omega)]; omega
      have es2 : ((pre.length + 2 * bs : Nat) : Int) = ((pre ++ T).length : Int) := by rw [List.length_append]; omega
      rw [es, es2, ← List.append_assoc]
      have ha' : (pre ++ ((x ++ y) ++ rest)).Pairwise (Ah (cm p) B) := by simpa using ha
      have pm : ((pre ++ T) ++ rest).Perm (pre ++ (x ++ (y ++ rest))) := by
        rw [List.append_assoc]
        have := perm_mid (p := pre) (q := rest) hT
        simpa using this
      refine st3_loop o hb hb2 f (pre ++ T) rest (by omega) (by rw [List.length_append]; omega) (hf.perm pm) ?_ (hp.snoc hTl hTw) hk' fun pre' post' q1 q2 q3 q4 q5 => hK pre' post' (q1.trans pm) q2 q3 q4 q5
      rw [List.append_assoc]
      exact pw_mid ha' hT (pw_ah o hTw)

theorem st2_loop (o : Ord (cm p) B) {n : Nat} {K : List R → List Int → Prop} : ∀ (f bs : Nat) (l : List R), 0 < bs → n - bs < f → n = l.length → Fin p l → l.Pairwise (Ah (cm p) B) → Bks B bs l →
    (∀ T : List R, T.Perm l → T.Pairwise B → K T p) → L.slices_stableCmpFunc_h9_L2_R n f bs l p K
  | 0, bs, l, hb, hfu, hn, hf, ha, hk, hK => by omega
  | f + 1, bs, l, hb, hfu, hn, hf, ha, hk, hK => by
    show L.slices_stableCmpFunc_h9_L2_b _ _ _ _ _ _
    unfold L.slices_stableCmpFunc_h9_L2_b
    have hlen := hf.n
    rcases Nat.lt_or_ge bs n with g | g
    · refine cond_t (by simp; omega) ⟨l.length + 1, ?_⟩
      have e2 : i64 ((2 : Int) * (bs : Int)) = (((([] : List R).length + 2 * bs : Nat)) : Int) := by rw [i64_id (by omega) (by omega)]; simp
      have eb : i64 ((bs : Int) * 2) = ((2 * bs : Nat) : Int) := by rw [i64_id (by omega) (by omega)]; omega
      rw [e2]
      have h3 := st3_loop o (n := n) hb (by omega) (K := fun a1 data4 m3 => (bif (decide ((i64 (a1 + bs)) < (n : Int))) then L.slices_symMergeCmpFunc_h12 a1 (i64 (a1 + bs)) n data4 m3 (fun data5 m4 => L.slices_stableCmpFunc_h9_L2_R n f (i64 ((bs : Int) * 2)) data5 m4 K) else L.slices_stableCmpFunc_h9_L2_R n f (i64 ((bs : Int) * 2)) data4 m3 K)) (l.length + 1) [] l (by omega) (by simp; omega) hf ha (.nil _) hk fun pre post q1 q2 q3 q4 q5 => ?_
      · exact h3
      · have hl := q1.length_eq
        simp only [List.nil_append] at q1 hl
        rw [List.length_append] at hl
        rw [eb]
        by_cases h : bs < post.length
        · obtain ⟨x, y, rfl, hx, wx, wy⟩ := q4.rest q5 h
          rw [List.length_append] at h hl q5
          obtain ⟨a1, a2, a3⟩ := List.pairwise_append.1 q2
          obtain ⟨b1, b2, b3⟩ := List.pairwise_append.1 a2
          have e1 : i64 ((pre.length : Int) + (bs : Int)) = ((pre.length + x.length : Nat) : Int) := by rw [i64_id (by omega) (by omega)]; omega
          rw [e1]
          have ed : pre ++ (x ++ y) = pre ++ (x ++ (y ++ [])) := by simp
          rw [ed]
          refine cond_t (by simp; omega) (symMerge_ok o rfl rfl (by omega) (by omega) (by omega) (hf.perm (by rw [← ed]; exact q1)) wx wy b3 fun T hT hTw => ?_)
          rw [List.append_nil]
          have pm : (pre ++ T).Perm l := (List.Perm.append_left _ hT).trans q1
          refine st2_loop o f (2 * bs) (pre ++ T) (by omega) (by omega) (by rw [pm.length_eq]; exact hn) (hf.perm pm) ?_ (q3 _ (.last _ (by rw [hT.length_eq, List.length_append]; omega) hTw)) fun U hU hUw => hK U (hU.trans pm) hUw
          have := pw_mid (q := []) (by simpa using q2) hT (pw_ah o hTw)
          simpa using this
        · have e1 : i64 ((pre.length : Int) + (bs : Int)) = ((pre.length + bs : Nat) : Int) := by rw [i64_id (by omega) (by omega)]; omega
          rw [e1]
          refine cond_f (by simp; omega) ?_
          exact st2_loop o f (2 * bs) (pre ++ post) (by omega) (by omega) (by rw [q1.length_eq]; exact hn) (hf.perm q1) q2 (q3 _ (.last _ (by omega) (q4.one (by omega) hb))) fun U hU hUw => hK U (hU.trans q1) hUw
    · exact cond_f (by simp; omega) (hK l (.refl _) (hk.one (by omega) hb))

theorem sort_ok (o : Ord (cm p) B) {l : List R} (hf : Fin p l) (ha : l.Pairwise (Ah (cm p) B)) {K : List R → List Int → Prop} (hK : ∀ T : List R, T.Perm l → T.Pairwise B → K T p) : L.slices_SortStableFunc_h8 l p K := by
  refine ⟨⟨⟨l.length + 1, ?_⟩⟩⟩
  have hlen := hf.n
  refine st1_loop o (n := l.length) (l.length + 1) [] l (by omega) (by simp) hf ha (.nil _) fun pre post q1 q2 q3 q4 => ?_
  simp only [List.nil_append] at q1
  have hl := q1.length_eq
  rw [List.length_append] at hl
  have ed : pre ++ post = pre ++ (post ++ []) := by simp
  rw [ed]
  obtain ⟨a1, a2, a3⟩ := List.pairwise_append.1 q2
  refine insertion_ok o rfl (by omega) (hf.perm (by rw [← ed]; exact q1)) a2 fun T hT hTw => ⟨l.length + 1, ?_⟩
  rw [List.append_nil]
  have pm : (pre ++ T).Perm l := (List.Perm.append_left _ hT).trans q1
  refine st2_loop o (l.length + 1) 20 (pre ++ T) (by omega) (by omega) pm.length_eq.symm (hf.perm pm) ?_ (q3 _ (.last _ (by rw [hT.length_eq]; omega) hTw)) fun U hU hUw => hK U (hU.trans pm) hUw
  have := pw_mid (q := []) (by simpa using q2) hT (pw_ah o hTw)
  simpa using this

end
end Sr
end Go.Proofs.Ytjlejiefkmimiaa

/-
  The specification's state beside the machine's: what was sent and how much of it was taken. Conditions: none.
-/
import Derived.Test.YtfkhdfmnhkndeaaDmC
set_option linter.unusedVariables false
set_option linter.unusedSimpArgs false
namespace Go.Proofs.Ytfkhdfmnhkndeaa
open Eng
namespace Dl

theorem try_true {caps : List Int} {qs : List (List Int)} {n : Nat} (hn : qs.length = n) {o : Op} (ho : OpOk n o) {w : Int} (h : (tryS caps qs o w).1.2.2 = true) :
    (o.1 = 1 ∧ (0 ≤ o.2.1 ∧ o.2.1 < n) ∧ (tryS caps qs o w).1.1 = o.2.1 ∧ (tryS caps qs o w).2 = qs.set o.2.1.toNat (qs.getD o.2.1.toNat [] ++ [(tryS caps qs o w).1.2.1]) ∧ ((qs.getD o.2.1.toNat []).length : Int) < caps.getD o.2.1.toNat 0) ∨
    (o.1 ≠ 1 ∧ ∃ (c : Int) (xs : List Int), (0 ≤ c ∧ c < n) ∧ (tryS caps qs o w).1.1 = c ∧ qs.getD c.toNat [] = (tryS caps qs o w).1.2.1 :: xs ∧ (tryS caps qs o w).2 = qs.set c.toNat xs) ∨
    (3 ≤ o.1 ∧ (tryS caps qs o w).1.1 = -1 ∧ (tryS caps qs o w).1.2.1 = 0 ∧ (tryS caps qs o w).2 = qs ∧ w ≥ o.2.2.2.1 ∧ o.2.2.2.1 ≠ -1) := by
  have hk := ho.kind
  revert h
  unfold tryS
  by_cases h1 : o.1 = 1
  · simp only [if_pos h1]
    have hc := ho.chan (by omega)
    by_cases h2 : ((qs.getD o.2.1.toNat []).length : Int) ≥ caps.getD o.2.1.toNat 0
    · simp only [if_pos h2]
      intro h; cases h
    · simp only [if_neg h2]
      exact fun _ => .inl ⟨h1, hc, trivial, trivial, by omega⟩
  simp only [if_neg h1]
  by_cases h2 : o.1 = 2
  · simp only [if_pos h2]
    have hc := ho.chan (by omega)
    split
    · intro h; cases h
    · next x xs he => exact fun _ => .inr (.inl ⟨h1, o.2.1, xs, hc, rfl, he, rfl⟩)
  simp only [if_neg h2]
  by_cases h3 : o.1 = 3
  · simp only [if_pos h3]
    split
    · next c hp =>
      have hc := ho.chans c (pick_some hp).1
      split
      · intro h; cases h
      · next x xs he => exact fun _ => .inr (.inl ⟨h1, c, xs, hc, rfl, he, rfl⟩)
    · intro h
      have h' := of_decide_eq_true h
      exact .inr (.inr ⟨by omega, rfl, rfl, rfl, h'.2, h'.1⟩)
  simp only [if_neg h3]
  intro h
  have h' := of_decide_eq_true h
  have := ho.wait.2.2 h3
  exact .inr (.inr ⟨by omega, trivial, trivial, trivial, h', by omega⟩)

theorem try_false {caps : List Int} {qs : List (List Int)} {o : Op} {w : Int} (h : (tryS caps qs o w).1.2.2 = false) : (tryS caps qs o w).2 = qs ∧ (3 ≤ o.1 → o.2.2.2.1 ≠ -1 → w < o.2.2.2.1) := by
  revert h
  unfold tryS
  by_cases h1 : o.1 = 1
  · simp only [if_pos h1]
    split
    · exact fun _ => ⟨rfl, fun h => by omega⟩
    · intro h; cases h
  simp only [if_neg h1]
  by_cases h2 : o.1 = 2
  · simp only [if_pos h2]
    split
    · exact fun _ => ⟨rfl, fun h => by omega⟩
    · intro h; cases h
  simp only [if_neg h2]
  by_cases h3 : o.1 = 3
  · simp only [if_pos h3]
    split
    · next c hp =>
      split
      · next he => exact absurd he (pick_some hp).2
      · intro h; cases h
    · intro h
      have h' := of_decide_eq_false h
      exact ⟨rfl, fun _ hw => by
        rcases Int.lt_or_le w o.2.2.2.1 with g | g
        · exact g
        · exact absurd ⟨hw, g⟩ h'⟩
  simp only [if_neg h3]
  intro h
  have h' := of_decide_eq_false h
  exact ⟨trivial, fun _ _ => by omega⟩

theorem Lies.cell {m : Pool} {h : Hd} {xs : List Int} (hl : Lies m h xs) {i : Nat} (hi : i < xs.length) : pok m h.a i ∧ pget m h.a i = xs.getD i 0 := by
  obtain ⟨h1, h2, h3 | ⟨b, o, row, cap, h3, h4, h5, h6, h7⟩⟩ := hl
  · omega
  · rw [h3]
    refine ⟨⟨b, o, _, rfl, h4, by simp only; omega⟩, ?_⟩
    simp only [pget, prow, h4]
    rw [← h5, List.getD_eq_getElem?_getD, List.getD_eq_getElem?_getD, List.getElem?_take, if_pos (by omega), List.getElem?_drop]

theorem set4 {α} (a0 a1 a2 a3 x : α) {p : Nat} (h : p < 4) : [bif Nat.beq p 0 then x else a0, bif Nat.beq p 1 then x else a1, bif Nat.beq p 2 then x else a2, bif Nat.beq p 3 then x else a3] = [a0, a1, a2, a3].set p x := by
  match p, h with
  | 0, _ => rfl
  | 1, _ => rfl
  | 2, _ => rfl
  | 3, _ => rfl

theorem set5 {α} (a0 a1 a2 a3 a4 x : α) {p : Nat} (h : p < 5) : [bif Nat.beq p 0 then x else a0, bif Nat.beq p 1 then x else a1, bif Nat.beq p 2 then x else a2, bif Nat.beq p 3 then x else a3, bif Nat.beq p 4 then x else a4] = [a0, a1, a2, a3, a4].set p x := by
  match p, h with
  | 0, _ => rfl
  | 1, _ => rfl
  | 2, _ => rfl
  | 3, _ => rfl
  | 4, _ => rfl

theorem set5n {α} (a0 a1 a2 a3 a4 x y : α) {p : Nat} (h : p < 5) : [bif Nat.beq p 0 then x else (bif Nat.beq p 5 then y else a0), bif Nat.beq p 1 then x else (bif Nat.beq p 6 then y else a1), bif Nat.beq p 2 then x else (bif Nat.beq p 7 then y else a2), bif Nat.beq p 3 then x else (bif Nat.beq p 8 then y else a3), bif Nat.beq p 4 then x else (bif Nat.beq p 9 then y else a4)] = [a0, a1, a2, a3, a4].set p x := by
  match p, h with
  | 0, _ => rfl
  | 1, _ => rfl
  | 2, _ => rfl
  | 3, _ => rfl
  | 4, _ => rfl

/-- The specification's state beside the machine's. -/
structure Rel (caps : List Int) (sc : List (List Op)) (S : St) (snt : List (List Int)) (m : Pool) (hs : List Hd) (tk nx sn : List Int) : Prop where
  four : snt.length = 4
  lay : Lay m hs snt
  tb : ∀ c, c < caps.length → 0 ≤ tk.getD c 0 ∧ tk.getD c 0 ≤ ((snt.getD c []).length : Int)
  qs : ∀ c, c < caps.length → S.qs.getD c [] = (snt.getD c []).drop (tk.getD c 0).toNat
  few : ∀ c, c < 4 → (snt.getD c []).length ≤ S.res.length
  nx : ∀ i, i < sc.length → nx.getD i 0 = S.next.getD i 0
  sn : ∀ i, i < sc.length → sn.getD i 0 = S.since.getD i 0

theorem Rel.chs {caps : List Int} {sc : List (List Op)} (hv : Valid caps sc) {S : St} (hok : Ok caps sc S) {snt : List (List Int)} {m : Pool} {hs : List Hd} {tk nx sn : List Int} (h : Rel caps sc S snt m hs tk nx sn) : Chs caps.length S.qs hs tk := fun c hc => by
  have h4 := hv.nc
  have hr := (h.lay.row c (by rw [h.four]; omega)).1
  have ht := h.tb c hc
  have hf := h.few c (by omega)
  have := res_le hv hok
  refine ⟨ht.1, by omega, ?_⟩
  rw [h.qs c hc, List.length_drop]
  omega

theorem Rel.go {caps : List Int} {sc : List (List Op)} {S : St} (hok : Ok caps sc S) {snt : List (List Int)} {m : Pool} {hs : List Hd} {tk nx sn : List Int} (h : Rel caps sc S snt m hs tk nx sn) (hnl : nx.length = 5) (hsl : sn.length = 5) (h5 : sc.length ≤ 5) {p : Int} (hp : 0 ≤ p ∧ p < sc.length)
    (hf : (tryS caps S.qs (opAt sc S p) (S.tick - S.since.getD p.toNat 0)).1.2.2 = true) {snt' : List (List Int)} {m' : Pool} {hs' : List Hd} {tk' : List Int} (g1 : snt'.length = 4) (g2 : Lay m' hs' snt') (g3 : ∀ c, c < caps.length → 0 ≤ tk'.getD c 0 ∧ tk'.getD c 0 ≤ ((snt'.getD c []).length : Int))
    (g4 : ∀ c, c < caps.length → (tryS caps S.qs (opAt sc S p) (S.tick - S.since.getD p.toNat 0)).2.getD c [] = (snt'.getD c []).drop (tk'.getD c 0).toNat) (g5 : ∀ c, c < 4 → (snt'.getD c []).length ≤ S.res.length + 1) :
    Rel caps sc (stepP caps sc S p) snt' m' hs' tk' (nx.set p.toNat (nx.getD p.toNat 0 + 1)) (sn.set p.toNat (S.tick + 1)) ∧
    (stepP caps sc S p).res = S.res ++ [(S.tick, (p, ((tryS caps S.qs (opAt sc S p) (S.tick - S.since.getD p.toNat 0)).1.1, (tryS caps S.qs (opAt sc S p) (S.tick - S.since.getD p.toNat 0)).1.2.1)))] := by
  have hi : p.toNat < sc.length := by omega
  have hx := h.nx _ hi
  unfold stepP
  rw [hf]
  simp only [cond_true]
  refine ⟨⟨g1, g2, g3, g4, fun c hc => by simpa using g5 c hc, fun i hi' => ?_, fun i hi' => ?_⟩, trivial⟩
  · by_cases e : p.toNat = i
    · subst e
      rw [getD_set_same _ _ _ _ (by omega), getD_set_same _ _ _ _ (by rw [hok.nl]; exact hi), hx]
    · rw [getD_set_other _ _ _ _ _ e, getD_set_other _ _ _ _ _ e]
      exact h.nx i hi'
  · by_cases e : p.toNat = i
    · subst e
      rw [getD_set_same _ _ _ _ (by omega), getD_set_same _ _ _ _ (by rw [hok.sl]; exact hi)]
    · rw [getD_set_other _ _ _ _ _ e, getD_set_other _ _ _ _ _ e]
      exact h.sn i hi'

theorem drop_head {l : List Int} {k : Nat} {v : Int} {xs : List Int} (h : v :: xs = l.drop k) : k < l.length ∧ l.getD k 0 = v ∧ l.drop (k + 1) = xs := by
  have hk : k < l.length := by
    rcases Nat.lt_or_ge k l.length with g | g
    · exact g
    · rw [List.drop_of_length_le g] at h
      cases h
  rw [List.drop_eq_getElem_cons hk] at h
  injection h with h1 h2
  exact ⟨hk, by rw [getD_get _ _ _ hk, h1], h2.symm⟩

theorem stepP_no {caps : List Int} {sc : List (List Op)} {S : St} {p : Int} (hf : (tryS caps S.qs (opAt sc S p) (S.tick - S.since.getD p.toNat 0)).1.2.2 = false) : stepP caps sc S p = S := by
  have := (try_false hf).1
  unfold stepP
  rw [hf]
  simp only [cond_false]
  rw [this]

end Dl
end Go.Proofs.Ytfkhdfmnhkndeaa

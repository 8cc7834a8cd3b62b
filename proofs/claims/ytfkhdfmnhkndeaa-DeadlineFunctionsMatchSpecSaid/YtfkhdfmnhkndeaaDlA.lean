/-
  Queues as rows of a pool that begin anywhere in their blocks. Conditions: none.
-/
import Derived.Test.YtfkhdfmnhkndeaaEngX
namespace Go.Proofs.Ytfkhdfmnhkndeaa
open Eng
namespace Dl

theorem i64_succ {i : Nat} (h : i ≤ 9223372036854775806) : i64 ((i : Int) + 1) = ((i + 1 : Nat) : Int) := by
  rw [i64_id (by omega) (by omega)]
  omega

theorem getD_set_same {α} (l : List α) (i : Nat) (x d : α) (h : i < l.length) : (l.set i x).getD i d = x := by simp [List.getD, h]
theorem getD_set_other {α} (l : List α) (i j : Nat) (x d : α) (h : i ≠ j) : (l.set i x).getD j d = l.getD j d := by simp [List.getD, h]
theorem getD_get {α} (l : List α) (i : Nat) (d : α) (h : i < l.length) : l.getD i d = l[i] := by simp [List.getD, h]

theorem pfind_pput (x : Nat) (f : List Int → List Int) : ∀ (m : Pool) (b : Nat), pfind (pput m x f) b = if x = b then (pfind m x).map (fun r => (f r.1, r.2)) else pfind m b
  | [], b => by simp [pput, pfind]
  | (c, r) :: m, b => by
    have ih := pfind_pput x f m b
    simp only [pput]
    by_cases h : c = x
    · subst h
      rw [if_pos rfl]
      simp only [pfind, if_true]
      by_cases hb : c = b
      · simp [hb]
      · simp [hb]
    · rw [if_neg h]
      simp only [pfind, if_neg h]
      rw [ih]
      by_cases hb : x = b
      · subst hb
        simp [h]
      · simp only [if_neg hb]

/-- The header stands for this row. -/
def Lies (m : Pool) (h : Hd) (xs : List Int) : Prop :=
  h.n = xs.length ∧ h.n ≤ h.c ∧ (h.c = 0 ∨ ∃ b o row cap, h.a = some ⟨b, o, none⟩ ∧ pfind m b = some (row, cap) ∧ (row.drop o).take h.n = xs ∧ o + h.n ≤ row.length ∧ o + h.c ≤ cap)

def blk (h : Hd) : Option Nat := if h.c = 0 then none else h.a.map (·.block)

theorem Lies.ok {m : Pool} {h : Hd} {xs : List Int} (hl : Lies m h xs) : h.ok m := by
  obtain ⟨h1, h2, h3 | ⟨b, o, row, cap, h3, h4, h5, h6, h7⟩⟩ := hl
  · exact ⟨h2, .inl h3⟩
  · exact ⟨h2, .inr ⟨b, o, (row, cap), h3, h4, h6, h7⟩⟩

theorem Lies.get {m : Pool} {h : Hd} {xs : List Int} (hl : Lies m h xs) : h.get m = xs := by
  obtain ⟨h1, h2, h3 | ⟨b, o, row, cap, h3, h4, h5, h6, h7⟩⟩ := hl
  · have h0 : h.n = 0 := by omega
    have hx : xs = [] := List.length_eq_zero_iff.1 (by omega)
    subst hx
    unfold Hd.get
    rw [h0]
    cases h.a <;> simp
  · simp only [Hd.get, h3, prow, h4]
    exact h5

theorem Lies.nil (m : Pool) : Lies m Hd.nil [] := ⟨rfl, Nat.le_refl _, .inl rfl⟩

/-- What m' keeps of m but for a row. -/
def Keeps (h : Hd) (m m' : Pool) : Prop := ∀ b, blk h ≠ some b → ∀ r, pfind m b = some r → pfind m' b = some r

theorem Keeps.refl (h : Hd) (m : Pool) : Keeps h m m := fun _ _ _ e => e

theorem Lies.other {m m' : Pool} {h g : Hd} {xs : List Int} (hl : Lies m g xs) (hk : Keeps h m m') (hd : ∀ b, blk h = some b → blk g ≠ some b) : Lies m' g xs := by
  obtain ⟨h1, h2, h3⟩ := hl
  refine ⟨h1, h2, ?_⟩
  by_cases h0 : g.c = 0
  · exact .inl h0
  · obtain h3 | ⟨b, o, row, cap, h3, h4, h5⟩ := h3
    · exact .inl h3
    · refine .inr ⟨b, o, row, cap, h3, hk b (fun e => ?_) _ h4, h5⟩
      exact hd b e (by simp [blk, h0, h3])

/-- The first of a row. -/
theorem Lies.head {m : Pool} {h : Hd} {x : Int} {xs : List Int} (hl : Lies m h (x :: xs)) : pok m h.a 0 ∧ pget m h.a 0 = x := by
  obtain ⟨h1, h2, h3 | ⟨b, o, row, cap, h3, h4, h5, h6, h7⟩⟩ := hl
  · simp at h1; omega
  · simp at h1
    rw [h3]
    refine ⟨⟨b, o, _, rfl, h4, by simp only; omega⟩, ?_⟩
    simp only [pget, prow, h4, Nat.add_zero]
    have hg : ((row.drop o).take h.n).getD 0 0 = x := by rw [h5]; rfl
    rw [List.getD_eq_getElem?_getD, List.getElem?_take, if_pos (by omega), List.getElem?_drop, Nat.add_zero, ← List.getD_eq_getElem?_getD] at hg
    exact hg

/-- The first goes. -/
theorem Lies.tail {m : Pool} {h : Hd} {x : Int} {xs : List Int} (hl : Lies m h (x :: xs)) : Lies m (h.cut 1 h.n) xs ∧ ∀ b, blk (h.cut 1 h.n) = some b → blk h = some b := by
  obtain ⟨h1, h2, h3 | ⟨b, o, row, cap, h3, h4, h5, h6, h7⟩⟩ := hl
  · simp at h1; omega
  · simp at h1
    have hc0 : h.c ≠ 0 := by omega
    by_cases hc : h.c = 1
    · refine ⟨⟨by simp only [Hd.cut]; omega, by simp only [Hd.cut]; omega, .inl (by simp [Hd.cut, hc])⟩, fun b' hb => ?_⟩
      simp [blk, Hd.cut, hc] at hb
    · have ha : (h.cut 1 h.n).a = some ⟨b, o + 1, none⟩ := by
        simp only [Hd.cut, if_neg hc, h3, Option.map_some, Addr.add]
        rfl
      refine ⟨⟨by simp only [Hd.cut]; omega, by simp only [Hd.cut]; omega, .inr ⟨b, o + 1, row, cap, ha, h4, ?_, by simp only [Hd.cut]; omega, by simp only [Hd.cut]; omega⟩⟩, fun b' hb => ?_⟩
      · have e : (row.drop o).take h.n = row[o]'(by omega) :: (row.drop (o + 1)).take (h.n - 1) := by
          rw [List.drop_eq_getElem_cons (show o < row.length by omega), show h.n = (h.n - 1) + 1 from by omega, List.take_succ_cons]
          rfl
        rw [e] at h5
        injection h5
      · simp only [blk, ha] at hb
        simp only [blk, h3, if_neg hc0]
        split at hb
        · cases hb
        · exact hb

/-- One more, in place. -/
theorem Lies.more {m : Pool} {h : Hd} {xs : List Int} (hl : Lies m h xs) (x : Int) (hc : h.n + 1 ≤ h.c) :
    Lies (pwr m h.a h.n [x]) ⟨h.a, h.n + 1, h.c⟩ (xs ++ [x]) ∧ Keeps h m (pwr m h.a h.n [x]) := by
  obtain ⟨h1, h2, h3 | ⟨b, o, row, cap, h3, h4, h5, h6, h7⟩⟩ := hl
  · omega
  · rw [h3]
    simp only [pwr]
    refine ⟨⟨by simp [h1], hc, .inr ⟨b, o, row.take (o + h.n) ++ [x] ++ row.drop (o + h.n + 1), cap, rfl, ?_, ?_, ?_, h7⟩⟩, fun b' hb' r e => ?_⟩
    · rw [pfind_pput, if_pos rfl, h4]
      rfl
    · show ((row.take (o + h.n) ++ [x] ++ row.drop (o + h.n + 1)).drop o).take (h.n + 1) = xs ++ [x]
      have hA : (row.take (o + h.n)).length = o + h.n := by simp; omega
      rw [List.append_assoc, List.drop_append_of_le_length (by omega), List.drop_take, Nat.add_sub_cancel_left, h5, List.take_append, List.take_of_length_le (by omega)]
      simp [← h1]
    · show o + (h.n + 1) ≤ _
      simp only [List.length_append, List.length_take, List.length_singleton]
      omega
    · rw [pfind_pput, if_neg]
      · exact e
      · rintro rfl
        exact hb' (by simp [blk, h3, show h.c ≠ 0 from by omega])

/-- One more, elsewhere. -/
theorem Lies.moved {m : Pool} {h : Hd} {xs : List Int} (hl : Lies m h xs) (x : Int) {b cap : Nat} (hb : pfind m b = none) (hc : h.n + 1 ≤ cap) :
    Lies ((b, (h.get m ++ [x], cap)) :: m) ⟨some ⟨b, 0, none⟩, h.n + 1, cap⟩ (xs ++ [x]) ∧ Keeps h m ((b, (h.get m ++ [x], cap)) :: m) := by
  have h1 := hl.1
  refine ⟨⟨by simp [h1], hc, .inr ⟨b, 0, h.get m ++ [x], cap, rfl, by simp [pfind], ?_, ?_, by simp⟩⟩, fun b' _ r e => ?_⟩
  · rw [hl.get, List.drop_zero, List.take_of_length_le (by simp; omega)]
  · rw [hl.get]
    simp
    omega
  · simp only [pfind]
    rw [if_neg]
    · exact e
    · rintro rfl
      rw [hb] at e
      cases e

/-- The headers stand for these queues, each in a block of its own. -/
structure Lay (m : Pool) (hs : List Hd) (qs : List (List Int)) : Prop where
  len : hs.length = qs.length
  row : ∀ i, i < qs.length → Lies m (hs.getD i Hd.nil) (qs.getD i [])
  apart : ∀ i j, i < qs.length → j < qs.length → i ≠ j → ∀ b, blk (hs.getD i Hd.nil) = some b → blk (hs.getD j Hd.nil) ≠ some b

theorem Lay.upd {m m' : Pool} {hs : List Hd} {qs : List (List Int)} (hS : Lay m hs qs) {i : Nat} (hi : i < qs.length) {h' : Hd} {xs' : List Int}
    (h1 : Lies m' h' xs') (hb : ∀ b, blk h' = some b → blk (hs.getD i Hd.nil) = some b ∨ pfind m b = none) (hk : Keeps (hs.getD i Hd.nil) m m') :
    Lay m' (hs.set i h') (qs.set i xs') := by
  have hi' : i < hs.length := by rw [hS.len]; exact hi
  have far : ∀ j, j < qs.length → i ≠ j → ∀ b, blk h' = some b → blk (hs.getD j Hd.nil) ≠ some b := by
    intro j hj hij b hb'
    rcases hb b hb' with e | hn
    · exact hS.apart i j hi hj hij b e
    · intro e2
      obtain ⟨_, _, h3 | ⟨b2, o, row, cap, h3, h4, _⟩⟩ := hS.row j hj
      · simp only [blk, if_pos h3] at e2
        cases e2
      · simp only [blk, h3] at e2
        split at e2
        · cases e2
        · simp only [Option.map_some, Option.some.injEq] at e2
          subst e2
          rw [hn] at h4
          cases h4
  refine ⟨by simp [hS.len], fun j hj => ?_, fun j k hj hk2 hjk b => ?_⟩
  · rw [List.length_set] at hj
    by_cases hij : i = j
    · subst hij
      rw [getD_set_same _ _ _ _ hi', getD_set_same _ _ _ _ hi]
      exact h1
    · rw [getD_set_other _ _ _ _ _ hij, getD_set_other _ _ _ _ _ hij]
      exact (hS.row j hj).other hk (hS.apart i j hi hj hij)
  · rw [List.length_set] at hj hk2
    by_cases hij : i = j
    · subst hij
      rw [getD_set_same _ _ _ _ hi', getD_set_other _ _ _ _ _ hjk]
      exact far k hk2 hjk b
    · by_cases hik : i = k
      · subst hik
        rw [getD_set_same _ _ _ _ hi', getD_set_other _ _ _ _ _ hij]
        exact fun e e2 => far j hj hij b e2 e
      · rw [getD_set_other _ _ _ _ _ hij, getD_set_other _ _ _ _ _ hik]
        exact hS.apart j k hj hk2 hjk b

theorem Lay.new (m : Pool) (n : Nat) : Lay m (List.replicate n Hd.nil) (List.replicate n []) := by
  refine ⟨by simp, fun i hi => ?_, fun i j hi hj _ b => ?_⟩
  · have hi' : i < n := by simpa using hi
    rw [getD_get _ _ _ (by simpa using hi'), getD_get _ _ _ (by simpa using hi')]
    simp only [List.getElem_replicate]
    exact Lies.nil _
  · have hi' : i < n := by simpa using hi
    rw [getD_get _ _ _ (by simpa using hi')]
    simp only [List.getElem_replicate]
    intro h
    simp [blk, Hd.nil] at h

theorem Lay.oks {m : Pool} {hs : List Hd} {qs : List (List Int)} (hS : Lay m hs qs) (x : Hd) (hx : x ∈ hs) : x.ok m := by
  obtain ⟨i, hi, rfl⟩ := List.getElem_of_mem hx
  have := (hS.row i (by rw [← hS.len]; exact hi)).ok
  rw [getD_get _ _ _ hi] at this
  exact this

theorem Lay.okRows {m : Pool} {hs : List Hd} {qs : List (List Int)} (hS : Lay m hs qs) : okRows m .hnd hs := fun x hx => hS.oks x hx

theorem Lay.gets {m : Pool} {hs : List Hd} {qs : List (List Int)} (hS : Lay m hs qs) : (hs.map fun x : Hd => x.get m) = qs := by
  apply List.ext_getElem
  · simp [hS.len]
  · intro i h1 h2
    have h3 : i < hs.length := by simpa using h1
    have g := hS.row i h2
    rw [getD_get _ _ _ h3, getD_get _ _ _ h2] at g
    simp only [List.getElem_map]
    exact g.get

theorem Lay.fz {m : Pool} {hs : List Hd} {qs : List (List Int)} (hS : Lay m hs qs) : (List.map (fz m .hnd) hs : List (List Int)) = qs := hS.gets

end Dl
end Go.Proofs.Ytfkhdfmnhkndeaa

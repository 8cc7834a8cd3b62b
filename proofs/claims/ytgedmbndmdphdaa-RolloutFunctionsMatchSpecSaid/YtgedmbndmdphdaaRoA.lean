/-
  Rows that lie in a pool: what a header says, and what stays when one of them is written. Conditions: none.
-/
import Derived.Test.YtgedmbndmdphdaaEngV
namespace Go.Proofs.Ytgedmbndmdphdaa
open Eng
namespace Ro

theorem pfind_pput (x : Nat) (f : List Int → List Int) : ∀ (m : Pool) (b : Nat), pfind (pput m x f) b = if x = b then (pfind m x).map (fun r => (f r.1, r.2)) else pfind m b
  | [], b => by simp [pput, pfind]
  | (c, r) :: m, b => by
    have ih := pfind_pput x f m b
    simp only [pput]
    by_cases h : c = x
    · subst h
      rw [if_pos rfl]
      simp only [pfind, if_true]
      by_cases hb : c = b
      · simp [hb]
      · simp [hb]
    · rw [if_neg h]
      simp only [pfind, if_neg h]
      rw [ih]
      by_cases hb : x = b
      · subst hb
        simp [h]
      · simp only [if_neg hb]

/-- The header stands for this row. -/
def Lies (m : Pool) (h : Hd) (xs : List Int) : Prop :=
  h.n = xs.length ∧ h.n ≤ h.c ∧ (h.c = 0 ∨ ∃ b ys cap, h.a = some ⟨b, 0, none⟩ ∧ pfind m b = some (xs ++ ys, cap) ∧ h.c ≤ cap)

def blk (h : Hd) : Option Nat := if h.c = 0 then none else h.a.map (·.block)

theorem Lies.ok {m : Pool} {h : Hd} {xs : List Int} (hl : Lies m h xs) : h.ok m := by
  obtain ⟨h1, h2, h3 | ⟨b, ys, cap, h3, h4, h5⟩⟩ := hl
  · exact ⟨h2, .inl h3⟩
  · refine ⟨h2, .inr ⟨b, 0, _, h3, h4, ?_, ?_⟩⟩
    · simp [h1]
    · simpa using h5

theorem Lies.get {m : Pool} {h : Hd} {xs : List Int} (hl : Lies m h xs) : h.get m = xs := by
  obtain ⟨h1, h2, h3 | ⟨b, ys, cap, h3, h4, h5⟩⟩ := hl
  · have h0 : h.n = 0 := by omega
    have hx : xs = [] := List.length_eq_zero_iff.1 (by omega)
    subst hx
    unfold Hd.get
    rw [h0]
    cases h.a <;> simp
  · simp only [Hd.get, h3, prow, h4, List.drop_zero, h1, List.take_left']

theorem Lies.nil (m : Pool) : Lies m Hd.nil [] := ⟨rfl, Nat.le_refl _, .inl rfl⟩

/-- What m' keeps of m but for a row. -/
def Keeps (h : Hd) (m m' : Pool) : Prop := ∀ b, blk h ≠ some b → ∀ r, pfind m b = some r → pfind m' b = some r

theorem Keeps.refl (h : Hd) (m : Pool) : Keeps h m m := fun _ _ _ e => e
theorem Keeps.trans {h : Hd} {m m' m'' : Pool} (h1 : Keeps h m m') (h2 : Keeps h m' m'') : Keeps h m m'' := fun b hb r e => h2 b hb r (h1 b hb r e)

theorem Lies.other {m m' : Pool} {h g : Hd} {xs : List Int} (hl : Lies m g xs) (hk : Keeps h m m') (hd : ∀ b, blk h = some b → blk g ≠ some b) : Lies m' g xs := by
  obtain ⟨h1, h2, h3⟩ := hl
  refine ⟨h1, h2, ?_⟩
  by_cases h0 : g.c = 0
  · exact .inl h0
  · obtain h3 | ⟨b, ys, cap, h3, h4, h5⟩ := h3
    · exact .inl h3
    · refine .inr ⟨b, ys, cap, h3, hk b (fun e => ?_) _ h4, h5⟩
      exact hd b e (by simp [blk, h0, h3])

/-- A place of a row. -/
theorem Lies.place {m : Pool} {h : Hd} {xs : List Int} (hl : Lies m h xs) {i : Nat} (hi : i < xs.length) : pok m h.a i ∧ pget m h.a i = xs.getD i 0 := by
  obtain ⟨h1, h2, h3 | ⟨b, ys, cap, h3, h4, h5⟩⟩ := hl
  · omega
  · rw [h3]
    refine ⟨⟨b, 0, _, rfl, h4, by simp; omega⟩, ?_⟩
    simp only [pget, prow, h4, Nat.zero_add, List.getD, List.getElem?_append_left hi]

/-- A place of a row is written. -/
theorem Lies.wr {m : Pool} {h : Hd} {xs : List Int} (hl : Lies m h xs) {i : Nat} (hi : i < xs.length) (x : Int) : Lies (pwr m h.a i [x]) h (xs.set i x) ∧ Keeps h m (pwr m h.a i [x]) := by
  obtain ⟨h1, h2, h3 | ⟨b, ys, cap, h3, h4, h5⟩⟩ := hl
  · omega
  · rw [h3]
    simp only [pwr, Nat.zero_add]
    refine ⟨⟨by simp [h1], h2, .inr ⟨b, ys, cap, h3, ?_, h5⟩⟩, fun b' hb' r e => ?_⟩
    · rw [pfind_pput, if_pos rfl, h4]
      simp only [Option.map_some, Option.some.injEq, Prod.mk.injEq, and_true]
      rw [List.take_append_of_le_length (by omega), List.drop_append_of_le_length (by simp; omega)]
      rw [List.set_eq_take_append_cons_drop, if_pos hi]
      simp
    · rw [pfind_pput, if_neg]
      · exact e
      · rintro rfl
        exact hb' (by simp [blk, h3, show h.c ≠ 0 from by omega])

/-- The first of a row, and zeroes behind them. -/
theorem Lies.cut {m : Pool} {h : Hd} {xs : List Int} (hl : Lies m h xs) {i : Nat} (hi : i ≤ xs.length) :
    (h.cut i h.n).ok m ∧ Lies (pwr m (h.cut i h.n).a 0 (List.replicate (h.cut i h.n).n 0)) (h.cut 0 i) (xs.take i) ∧ Keeps h m (pwr m (h.cut i h.n).a 0 (List.replicate (h.cut i h.n).n 0)) ∧ blk (h.cut 0 i) = blk h := by
  obtain ⟨h1, h2, h3⟩ := hl
  by_cases h0 : h.c = 0
  · have hn : h.n = 0 := by omega
    have hx : xs = [] := List.length_eq_zero_iff.1 (by omega)
    subst hx
    simp at hi
    subst hi
    have hp : pwr m (h.cut 0 h.n).a 0 (List.replicate (h.cut 0 h.n).n 0) = m ∨ True := .inr trivial
    have hrep : List.replicate (h.cut 0 h.n).n (0 : Int) = [] := by simp [Hd.cut, hn]
    have hpw : ∀ b r, pfind m b = some r → pfind (pwr m (h.cut 0 h.n).a 0 []) b = some r := by
      intro b r e
      cases hc : (h.cut 0 h.n).a with
      | none => exact e
      | some a =>
        simp only [pwr]
        rw [pfind_pput]
        split
        · next he => subst he; rw [e]; simp
        · exact e
    rw [hrep]
    refine ⟨⟨by simp [Hd.cut, hn], .inl (by simp [Hd.cut, h0])⟩, ⟨rfl, by simp [Hd.cut], .inl (by simp [Hd.cut, h0])⟩, fun b _ r e => hpw b r e, by simp [blk, Hd.cut, h0]⟩
  · obtain h3 | ⟨b, ys, cap, h3, h4, h5⟩ := h3
    · exact absurd h3 h0
    · have hcut0 : (h.cut 0 i).a = some ⟨b, 0, none⟩ := by
        simp only [Hd.cut, h3]
        split <;> rfl
      have hlen : h.n - i + i = xs.length := by omega
      have hfind : pfind (pwr m (h.cut i h.n).a 0 (List.replicate (h.cut i h.n).n 0)) b = some (xs.take i ++ (List.replicate (h.n - i) 0 ++ ys), cap) ∧
          ∀ b', b' ≠ b → pfind (pwr m (h.cut i h.n).a 0 (List.replicate (h.cut i h.n).n 0)) b' = pfind m b' := by
        by_cases hc : h.c = i
        · have hin : i = xs.length := by omega
          have ha : (h.cut i h.n).a = some ⟨b, 0, none⟩ := by simp [Hd.cut, hc, h3]
          have hr : (h.cut i h.n).n = 0 := by simp only [Hd.cut]; omega
          rw [ha, hr]
          simp only [pwr]
          refine ⟨?_, fun b' hb' => ?_⟩
          · rw [pfind_pput, if_pos rfl, h4]
            simp [hin, h1]
          · rw [pfind_pput, if_neg (fun e => hb' e.symm)]
        · have ha : (h.cut i h.n).a = some ⟨b, i, none⟩ := by
            (simp only [Hd.cut, if_neg hc, h3, Option.map_some, Addr.add, Nat.zero_add]; split <;> first | rfl | (next e => subst e; rfl))
          have hr : (h.cut i h.n).n = h.n - i := rfl
          rw [ha, hr]
          simp only [pwr]
          refine ⟨?_, fun b' hb' => ?_⟩
          · rw [pfind_pput, if_pos rfl, h4]
            simp only [Option.map_some, Option.some.injEq, Prod.mk.injEq, and_true, Nat.add_zero, List.length_replicate]
            rw [List.take_append_of_le_length hi, show i + (h.n - i) = xs.length from by omega, List.drop_left']
            · simp
            · rfl
          · rw [pfind_pput, if_neg (fun e => hb' e.symm)]
      refine ⟨⟨by simp only [Hd.cut]; omega, ?_⟩, ⟨?_, by simp only [Hd.cut]; omega, .inr ⟨b, _, cap, hcut0, hfind.1, ?_⟩⟩, fun b' hb' r e => ?_, ?_⟩
      · by_cases hc : h.c = i
        · exact .inl (by simp [Hd.cut, hc])
        · refine .inr ⟨b, i, _, by (simp only [Hd.cut, if_neg hc, h3, Option.map_some, Addr.add, Nat.zero_add]; split <;> first | rfl | (next e => subst e; rfl)), h4, ?_, ?_⟩
          · simp only [Hd.cut, List.length_append]; omega
          · simp only [Hd.cut]; omega
      · simp only [Hd.cut, List.length_take]; omega
      · simp only [Hd.cut]; omega
      · rw [hfind.2 b']
        · exact e
        · rintro rfl
          exact hb' (by simp [blk, h3, h0])
      · simp only [blk, hcut0, h3]
        simp [Hd.cut, h0]

/-- One more, in place. -/
theorem Lies.more {m : Pool} {h : Hd} {xs : List Int} (hl : Lies m h xs) (x : Int) (hc : h.n + 1 ≤ h.c) :
    Lies (pwr m h.a h.n [x]) ⟨h.a, h.n + 1, h.c⟩ (xs ++ [x]) ∧ Keeps h m (pwr m h.a h.n [x]) := by
  obtain ⟨h1, h2, h3 | ⟨b, ys, cap, h3, h4, h5⟩⟩ := hl
  · omega
  · rw [h3]
    simp only [pwr, Nat.zero_add]
    refine ⟨⟨by simp [h1], hc, .inr ⟨b, ys.drop 1, cap, rfl, ?_, h5⟩⟩, fun b' hb' r e => ?_⟩
    · rw [pfind_pput, if_pos rfl, h4]
      simp only [Option.map_some, Option.some.injEq, Prod.mk.injEq, and_true]
      rw [h1, List.take_left' rfl, List.drop_append]
      simp
    · rw [pfind_pput, if_neg]
      · exact e
      · rintro rfl
        exact hb' (by simp [blk, h3, show h.c ≠ 0 from by omega])

/-- One more, elsewhere. -/
theorem Lies.moved {m : Pool} {h : Hd} {xs : List Int} (hl : Lies m h xs) (x : Int) {b cap : Nat} (hb : pfind m b = none) (hc : h.n + 1 ≤ cap) :
    Lies ((b, (h.get m ++ [x], cap)) :: m) ⟨some ⟨b, 0, none⟩, h.n + 1, cap⟩ (xs ++ [x]) ∧ Keeps h m ((b, (h.get m ++ [x], cap)) :: m) := by
  refine ⟨⟨by simp [hl.1], hc, .inr ⟨b, [], cap, rfl, by simp [pfind, hl.get], Nat.le_refl _⟩⟩, fun b' _ r e => ?_⟩
  simp only [pfind]
  rw [if_neg]
  · exact e
  · rintro rfl
    rw [hb] at e
    cases e

abbrev Row := List Int × (Int × (Int × Int))
abbrev Hrow := Hd × (Int × (Int × Int))

/-- The headers stand for these rows, each in a block of its own. -/
structure Lay (m : Pool) (hs : List Hrow) (a : List Row) : Prop where
  len : hs.length = a.length
  row : ∀ i, i < a.length → Lies m (hs.getD i (Hd.nil, (0, (0, 0)))).1 (a.getD i ([], (0, (0, 0)))).1 ∧ (hs.getD i (Hd.nil, (0, (0, 0)))).2 = (a.getD i ([], (0, (0, 0)))).2
  apart : ∀ i j, i < a.length → j < a.length → i ≠ j → ∀ b, blk (hs.getD i (Hd.nil, (0, (0, 0)))).1 = some b → blk (hs.getD j (Hd.nil, (0, (0, 0)))).1 ≠ some b

theorem getD_set_same {α} (l : List α) (i : Nat) (x d : α) (h : i < l.length) : (l.set i x).getD i d = x := by simp [List.getD, h]
theorem getD_set_other {α} (l : List α) (i j : Nat) (x d : α) (h : i ≠ j) : (l.set i x).getD j d = l.getD j d := by simp [List.getD, h]

theorem Lay.upd {m m' : Pool} {hs : List Hrow} {a : List Row} (hS : Lay m hs a) {i : Nat} (hi : i < a.length) {h' : Hd} {xs' : List Int} {r : Int × (Int × Int)}
    (h1 : Lies m' h' xs') (hb : blk h' = blk (hs.getD i (Hd.nil, (0, (0, 0)))).1 ∨ ∀ b, blk h' = some b → pfind m b = none) (hk : Keeps (hs.getD i (Hd.nil, (0, (0, 0)))).1 m m') :
    Lay m' (hs.set i (h', r)) (a.set i (xs', r)) := by
  have hi' : i < hs.length := by rw [hS.len]; exact hi
  -- what has the new row's block
  have far : ∀ j, j < a.length → i ≠ j → ∀ b, blk h' = some b → blk (hs.getD j (Hd.nil, (0, (0, 0)))).1 ≠ some b := by
    intro j hj hij b hb'
    rcases hb with e | e
    · exact hS.apart i j hi hj hij b (e ▸ hb')
    · intro e2
      have hn := e b hb'
      obtain ⟨_, _, h3 | ⟨b2, ys, cap, h3, h4, _⟩⟩ := (hS.row j hj).1
      · simp only [blk, if_pos h3] at e2
        cases e2
      · simp only [blk, h3] at e2
        split at e2
        · cases e2
        · simp only [Option.map_some, Option.some.injEq] at e2
          subst e2
          rw [hn] at h4
          cases h4
  refine ⟨by simp [hS.len], fun j hj => ?_, fun j k hj hk2 hjk b => ?_⟩
  · rw [List.length_set] at hj
    by_cases hij : i = j
    · subst hij
      rw [getD_set_same _ _ _ _ hi', getD_set_same _ _ _ _ hi]
      exact ⟨h1, rfl⟩
    · rw [getD_set_other _ _ _ _ _ hij, getD_set_other _ _ _ _ _ hij]
      exact ⟨(hS.row j hj).1.other hk (hS.apart i j hi hj hij), (hS.row j hj).2⟩
  · rw [List.length_set] at hj hk2
    by_cases hij : i = j
    · subst hij
      rw [getD_set_same _ _ _ _ hi', getD_set_other _ _ _ _ _ hjk]
      exact far k hk2 hjk b
    · by_cases hik : i = k
      · subst hik
        rw [getD_set_same _ _ _ _ hi', getD_set_other _ _ _ _ _ hij]
        exact fun e e2 => far j hj hij b e2 e
      · rw [getD_set_other _ _ _ _ _ hij, getD_set_other _ _ _ _ _ hik]
        exact hS.apart j k hj hk2 hjk b

/-- The other fields of a row. -/
theorem Lay.set {m : Pool} {hs : List Hrow} {a : List Row} (hS : Lay m hs a) {i : Nat} (hi : i < a.length) (r : Int × (Int × Int)) :
    Lay m (hs.set i ((hs.getD i (Hd.nil, (0, (0, 0)))).1, r)) (a.set i ((a.getD i ([], (0, (0, 0)))).1, r)) :=
  hS.upd hi (hS.row i hi).1 (.inl rfl) (Keeps.refl _ _)

abbrev TT : Ty := .pair .hnd (.pair (.int .i64) (.pair (.int .i64) (.int .i64)))

theorem getD_get {α} (l : List α) (i : Nat) (d : α) (h : i < l.length) : l.getD i d = l[i] := by simp [List.getD, h]

theorem Lay.oks {m : Pool} {hs : List Hrow} {a : List Row} (hS : Lay m hs a) (x : Hrow) (hx : x ∈ hs) : x.1.ok m := by
  obtain ⟨i, hi, rfl⟩ := List.getElem_of_mem hx
  have := (hS.row i (by rw [← hS.len]; exact hi)).1.ok
  rw [getD_get _ _ _ hi] at this
  exact this

theorem Lay.okRows {m : Pool} {hs : List Hrow} {a : List Row} (hS : Lay m hs a) : okRows m TT hs := fun x hx => ⟨hS.oks x hx, trivial, trivial, trivial⟩

theorem Lay.gets {m : Pool} {hs : List Hrow} {a : List Row} (hS : Lay m hs a) : (hs.map fun x : Hrow => ((x.1.get m, x.2) : Row)) = a := by
  apply List.ext_getElem
  · simp [hS.len]
  · intro i h1 h2
    have h3 : i < hs.length := by simpa using h1
    obtain ⟨g1, g2⟩ := hS.row i h2
    rw [getD_get _ _ _ h3, getD_get _ _ _ h2] at g1 g2
    simp only [List.getElem_map]
    rw [g1.get, g2]

theorem Lay.fz {m : Pool} {hs : List Hrow} {a : List Row} (hS : Lay m hs a) : (List.map (fz m TT) hs : List (List Int × (Int × (Int × Int)))) = a := hS.gets

end Ro
end Go.Proofs.Ytgedmbndmdphdaa

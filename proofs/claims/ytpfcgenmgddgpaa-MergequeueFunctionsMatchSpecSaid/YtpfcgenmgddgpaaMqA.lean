/-
  Rows that lie in a pool: what a header says, and what stays when one of them is written. Conditions: none.
-/
import Derived.Test.YtpfcgenmgddgpaaEngV
namespace Go.Proofs.Ytpfcgenmgddgpaa
open Eng
namespace Mq

theorem pfind_pput (x : Nat) (f : List Int → List Int) : ∀ (m : Pool) (b : Nat), pfind (pput m x f) b = if x = b then (pfind m x).map (fun r => (f r.1, r.2)) else pfind m b
  | [], b => by simp [pput, pfind]
  | (c, r) :: m, b => by
    have ih := pfind_pput x f m b
    simp only [pput]
    by_cases h : c = x
    · subst h
      rw [if_pos rfl]
      simp only [pfind, if_true]
      by_cases hb : c = b
      · simp [hb]
      · simp [hb]
    · rw [if_neg h]
      simp only [pfind, if_neg h]
      rw [ih]
      by_cases hb : x = b
      · subst hb
        simp [h]
      · simp only [if_neg hb]

/-- The header stands for this row. -/
def Lies (m : Pool) (h : Hd) (xs : List Int) : Prop :=
  h.n = xs.length ∧ h.n ≤ h.c ∧ (h.c = 0 ∨ ∃ b ys cap, h.a = some ⟨b, 0, none⟩ ∧ pfind m b = some (xs ++ ys, cap) ∧ h.c ≤ cap)

def blk (h : Hd) : Option Nat := if h.c = 0 then none else h.a.map (·.block)

theorem Lies.ok {m : Pool} {h : Hd} {xs : List Int} (hl : Lies m h xs) : h.ok m := by
  obtain ⟨h1, h2, h3 | ⟨b, ys, cap, h3, h4, h5⟩⟩ := hl
  · exact ⟨h2, .inl h3⟩
  · refine ⟨h2, .inr ⟨b, 0, _, h3, h4, ?_, ?_⟩⟩
    · simp [h1]
    · simpa using h5

theorem Lies.get {m : Pool} {h : Hd} {xs : List Int} (hl : Lies m h xs) : h.get m = xs := by
  obtain ⟨h1, h2, h3 | ⟨b, ys, cap, h3, h4, h5⟩⟩ := hl
  · have h0 : h.n = 0 := by omega
    have hx : xs = [] := List.length_eq_zero_iff.1 (by omega)
    subst hx
    unfold Hd.get
    rw [h0]
    cases h.a <;> simp
  · simp only [Hd.get, h3, prow, h4, List.drop_zero, h1, List.take_left']

theorem Lies.nil (m : Pool) : Lies m Hd.nil [] := ⟨rfl, Nat.le_refl _, .inl rfl⟩

/-- What m' keeps of m but for a row. -/
def Keeps (h : Hd) (m m' : Pool) : Prop := ∀ b, blk h ≠ some b → ∀ r, pfind m b = some r → pfind m' b = some r

theorem Keeps.refl (h : Hd) (m : Pool) : Keeps h m m := fun _ _ _ e => e
theorem Keeps.trans {h : Hd} {m m' m'' : Pool} (h1 : Keeps h m m') (h2 : Keeps h m' m'') : Keeps h m m'' := fun b hb r e => h2 b hb r (h1 b hb r e)

theorem Lies.other {m m' : Pool} {h g : Hd} {xs : List Int} (hl : Lies m g xs) (hk : Keeps h m m') (hd : ∀ b, blk h = some b → blk g ≠ some b) : Lies m' g xs := by
  obtain ⟨h1, h2, h3⟩ := hl
  refine ⟨h1, h2, ?_⟩
  by_cases h0 : g.c = 0
  · exact .inl h0
  · obtain h3 | ⟨b, ys, cap, h3, h4, h5⟩ := h3
    · exact .inl h3
    · refine .inr ⟨b, ys, cap, h3, hk b (fun e => ?_) _ h4, h5⟩
      exact hd b e (by simp [blk, h0, h3])

/-- A place of a row. -/
theorem Lies.place {m : Pool} {h : Hd} {xs : List Int} (hl : Lies m h xs) {i : Nat} (hi : i < xs.length) : pok m h.a i ∧ pget m h.a i = xs.getD i 0 := by
  obtain ⟨h1, h2, h3 | ⟨b, ys, cap, h3, h4, h5⟩⟩ := hl
  · omega
  · rw [h3]
    refine ⟨⟨b, 0, _, rfl, h4, by simp; omega⟩, ?_⟩
    simp only [pget, prow, h4, Nat.zero_add, List.getD, List.getElem?_append_left hi]

/-- A place of a row is written. -/
theorem Lies.wr {m : Pool} {h : Hd} {xs : List Int} (hl : Lies m h xs) {i : Nat} (hi : i < xs.length) (x : Int) : Lies (pwr m h.a i [x]) h (xs.set i x) ∧ Keeps h m (pwr m h.a i [x]) := by
  obtain ⟨h1, h2, h3 | ⟨b, ys, cap, h3, h4, h5⟩⟩ := hl
  · omega
  · rw [h3]
    simp only [pwr, Nat.zero_add]
    refine ⟨⟨by simp [h1], h2, .inr ⟨b, ys, cap, h3, ?_, h5⟩⟩, fun b' hb' r e => ?_⟩
    · rw [pfind_pput, if_pos rfl, h4]
      simp only [Option.map_some, Option.some.injEq, Prod.mk.injEq, and_true]
      rw [List.take_append_of_le_length (by omega), List.drop_append_of_le_length (by simp; omega)]
      rw [List.set_eq_take_append_cons_drop, if_pos hi]
      simp
    · rw [pfind_pput, if_neg]
      · exact e
      · rintro rfl
        exact hb' (by simp [blk, h3, show h.c ≠ 0 from by omega])

/-- The first of a row, and zeroes behind them. -/
theorem Lies.cut {m : Pool} {h : Hd} {xs : List Int} (hl : Lies m h xs) {i : Nat} (hi : i ≤ xs.length) :
    (h.cut i h.n).ok m ∧ Lies (pwr m (h.cut i h.n).a 0 (List.replicate (h.cut i h.n).n 0)) (h.cut 0 i) (xs.take i) ∧ Keeps h m (pwr m (h.cut i h.n).a 0 (List.replicate (h.cut i h.n).n 0)) ∧ blk (h.cut 0 i) = blk h := by
  obtain ⟨h1, h2, h3⟩ := hl
  by_cases h0 : h.c = 0
  · have hn : h.n = 0 := by omega
    have hx : xs = [] := List.length_eq_zero_iff.1 (by omega)
    subst hx
    simp at hi
    subst hi
    have hp : pwr m (h.cut 0 h.n).a 0 (List.replicate (h.cut 0 h.n).n 0) = m ∨ True := .inr trivial
    have hrep : List.replicate (h.cut 0 h.n).n (0 : Int) = [] := by simp [Hd.cut, hn]
    have hpw : ∀ b r, pfind m b = some r → pfind (pwr m (h.cut 0 h.n).a 0 []) b = some r := by
      intro b r e
      cases hc : (h.cut 0 h.n).a with
      | none => exact e
      | some a =>
        simp only [pwr]
        rw [pfind_pput]
        split
        · next he => subst he; rw [e]; simp
        · exact e
    rw [hrep]
    refine ⟨⟨by simp [Hd.cut, hn], .inl (by simp [Hd.cut, h0])⟩, ⟨rfl, by simp [Hd.cut], .inl (by simp [Hd.cut, h0])⟩, fun b _ r e => hpw b r e, by simp [blk, Hd.cut, h0]⟩
  · obtain h3 | ⟨b, ys, cap, h3, h4, h5⟩ := h3
    · exact absurd h3 h0
    · have hcut0 : (h.cut 0 i).a = some ⟨b, 0, none⟩ := by
        simp only [Hd.cut, h3]
        split <;> rfl
      have hlen : h.n - i + i = xs.length := by omega
      have hfind : pfind (pwr m (h.cut i h.n).a 0 (List.replicate (h.cut i h.n).n 0)) b = some (xs.take i ++ (List.replicate (h.n - i) 0 ++ ys), cap) ∧
          ∀ b', b' ≠ b → pfind (pwr m (h.cut i h.n).a 0 (List.replicate (h.cut i h.n).n 0)) b' = pfind m b' := by
        by_cases hc : h.c = i
        · have hin : i = xs.length := by omega
          have ha : (h.cut i h.n).a = some ⟨b, 0, none⟩ := by simp [Hd.cut, hc, h3]
          have hr : (h.cut i h.n).n = 0 := by simp only [Hd.cut]; omega
          rw [ha, hr]
          simp only [pwr]
          refine ⟨?_, fun b' hb' => ?_⟩
          · rw [pfind_pput, if_pos rfl, h4]
            simp [hin, h1]
          · rw [pfind_pput, if_neg (fun e => hb' e.symm)]
        · have ha : (h.cut i h.n).a = some ⟨b, i, none⟩ := by
            (simp only [Hd.cut, if_neg hc, h3, Option.map_some, Addr.add, Nat.zero_add]; split <;> first | rfl | (next e => subst e; rfl))
          have hr : (h.cut i h.n).n = h.n - i := rfl
          rw [ha, hr]
          simp only [pwr]
          refine ⟨?_, fun b' hb' => ?_⟩
          · rw [pfind_pput, if_pos rfl, h4]
            simp only [Option.map_some, Option.some.injEq, Prod.mk.injEq, and_true, Nat.add_zero, List.length_replicate]
            rw [List.take_append_of_le_length hi, show i + (h.n - i) = xs.length from by omega, List.drop_left']
            · simp
            · rfl
          · rw [pfind_pput, if_neg (fun e => hb' e.symm)]
      refine ⟨⟨by simp only [Hd.cut]; omega, ?_⟩, ⟨?_, by simp only [Hd.cut]; omega, .inr ⟨b, _, cap, hcut0, hfind.1, ?_⟩⟩, fun b' hb' r e => ?_, ?_⟩
      · by_cases hc : h.c = i
        · exact .inl (by simp [Hd.cut, hc])
        · refine .inr ⟨b, i, _, by (simp only [Hd.cut, if_neg hc, h3, Option.map_some, Addr.add, Nat.zero_add]; split <;> first | rfl | (next e => subst e; rfl)), h4, ?_, ?_⟩
          · simp only [Hd.cut, List.length_append]; omega
          · simp only [Hd.cut]; omega
      · simp only [Hd.cut, List.length_take]; omega
      · simp only [Hd.cut]; omega
      · rw [hfind.2 b']
        · exact e
        · rintro rfl
          exact hb' (by simp [blk, h3, h0])
      · simp only [blk, hcut0, h3]
        simp [Hd.cut, h0]

/-- One more, in place. -/
theorem Lies.more {m : Pool} {h : Hd} {xs : List Int} (hl : Lies m h xs) (x : Int) (hc : h.n + 1 ≤ h.c) :
    Lies (pwr m h.a h.n [x]) ⟨h.a, h.n + 1, h.c⟩ (xs ++ [x]) ∧ Keeps h m (pwr m h.a h.n [x]) := by
  obtain ⟨h1, h2, h3 | ⟨b, ys, cap, h3, h4, h5⟩⟩ := hl
  · omega
  · rw [h3]
    simp only [pwr, Nat.zero_add]
    refine ⟨⟨by simp [h1], hc, .inr ⟨b, ys.drop 1, cap, rfl, ?_, h5⟩⟩, fun b' hb' r e => ?_⟩
    · rw [pfind_pput, if_pos rfl, h4]
      simp only [Option.map_some, Option.some.injEq, Prod.mk.injEq, and_true]
      rw [h1, List.take_left' rfl, List.drop_append]
      simp
    · rw [pfind_pput, if_neg]
      · exact e
      · rintro rfl
        exact hb' (by simp [blk, h3, show h.c ≠ 0 from by omega])

/-- One more, elsewhere. -/
theorem Lies.moved {m : Pool} {h : Hd} {xs : List Int} (hl : Lies m h xs) (x : Int) {b cap : Nat} (hb : pfind m b = none) (hc : h.n + 1 ≤ cap) :
    Lies ((b, (h.get m ++ [x], cap)) :: m) ⟨some ⟨b, 0, none⟩, h.n + 1, cap⟩ (xs ++ [x]) ∧ Keeps h m ((b, (h.get m ++ [x], cap)) :: m) := by
  refine ⟨⟨by simp [hl.1], hc, .inr ⟨b, [], cap, rfl, by simp [pfind, hl.get], Nat.le_refl _⟩⟩, fun b' _ r e => ?_⟩
  simp only [pfind]
  rw [if_neg]
  · exact e
  · rintro rfl
    rw [hb] at e
    cases e

abbrev Ent := Int × (Int × (Bool × (Bool × (Bool × List Int))))
abbrev HE := Int × (Int × (Bool × (Bool × (Bool × Hd))))
abbrev e0 : Ent := (0, (0, (false, (false, (false, [])))))
abbrev x0 : HE := (0, (0, (false, (false, (false, Hd.nil)))))

/-- The entry with its row. -/
def wr (x : HE) (l : List Int) : Ent := (x.1, (x.2.1, (x.2.2.1, (x.2.2.2.1, (x.2.2.2.2.1, l)))))

def At (m : Pool) (x : HE) (e : Ent) : Prop := e = wr x e.2.2.2.2.2 ∧ Lies m x.2.2.2.2.2 e.2.2.2.2.2

/-- The headers stand for these entries, each row in a block of its own. -/
structure Lay (m : Pool) (hs : List HE) (es : List Ent) : Prop where
  len : hs.length = es.length
  row : ∀ (i : Nat) (x : HE) (e : Ent), hs[i]? = some x → es[i]? = some e → At m x e
  apart : ∀ (i j : Nat) (x y : HE), i ≠ j → hs[i]? = some x → hs[j]? = some y → ∀ b, blk x.2.2.2.2.2 = some b → blk y.2.2.2.2.2 ≠ some b

theorem Lay.get {m : Pool} {hs : List HE} {es : List Ent} (hS : Lay m hs es) {i : Nat} (hi : i < es.length) : ∃ x e, hs[i]? = some x ∧ es[i]? = some e ∧ At m x e := by
  have h1 : i < hs.length := by rw [hS.len]; exact hi
  exact ⟨hs[i], es[i], List.getElem?_eq_getElem h1, List.getElem?_eq_getElem hi, hS.row i _ _ (List.getElem?_eq_getElem h1) (List.getElem?_eq_getElem hi)⟩

theorem Lay.nil (m : Pool) : Lay m [] [] := ⟨rfl, fun i x e h => by simp at h, fun i j x y _ h => by simp at h⟩

/-- Entries moved about, or with other fields. -/
theorem Lay.re {m : Pool} {hs hs' : List HE} {es es' : List Ent} (hS : Lay m hs es) (σ : Nat → Nat) (hl : hs'.length = es'.length)
    (h : ∀ (k : Nat) (x : HE), hs'[k]? = some x → ∃ e, es'[k]? = some e ∧ At m x e ∧ (blk x.2.2.2.2.2 = none ∨ ∃ y, hs[σ k]? = some y ∧ y.2.2.2.2.2 = x.2.2.2.2.2))
    (hi : ∀ k l, k ≠ l → (∃ x, hs'[k]? = some x ∧ blk x.2.2.2.2.2 ≠ none) → (∃ x, hs'[l]? = some x ∧ blk x.2.2.2.2.2 ≠ none) → σ k ≠ σ l) : Lay m hs' es' := by
  refine ⟨hl, fun i x e h1 h2 => ?_, fun i j x y hij h1 h2 b hb hb2 => ?_⟩
  · obtain ⟨e', h3, h4, _⟩ := h i x h1
    rw [h2] at h3
    cases h3
    exact h4
  · obtain ⟨_, _, _, g | ⟨x', g1, g2⟩⟩ := h i x h1
    · rw [g] at hb; cases hb
    obtain ⟨_, _, _, k | ⟨y', k1, k2⟩⟩ := h j y h2
    · rw [k] at hb2; cases hb2
    exact hS.apart _ _ x' y' (hi i j hij ⟨x, h1, by rw [hb]; simp⟩ ⟨y, h2, by rw [hb2]; simp⟩) g1 k1 b (by rw [g2]; exact hb) (by rw [k2]; exact hb2)

theorem get_cut {α : Type} (l : List α) (i j k : Nat) (hi : i ≤ l.length) : (l.take i ++ l.drop j)[k]? = if k < i then l[k]? else l[j + (k - i)]? := by
  rw [List.getElem?_append, List.length_take, Nat.min_eq_left hi]
  split
  · rw [List.getElem?_take, if_pos ‹_›]
  · rw [List.getElem?_drop]

theorem Lay.cut {m : Pool} {hs : List HE} {es : List Ent} (hS : Lay m hs es) {i j : Nat} (hij : i ≤ j) (hj : j ≤ es.length) : Lay m (hs.take i ++ hs.drop j) (es.take i ++ es.drop j) := by
  have hl := hS.len
  refine hS.re (fun k => if k < i then k else j + (k - i)) (by simp [hl]) (fun k x hx => ?_) (fun k l hkl _ _ => ?_)
  · rw [get_cut _ _ _ _ (by omega)] at hx ⊢
    have hlt : (if k < i then k else j + (k - i)) < es.length := by
      rw [← hl]
      split at hx
      · rw [if_pos ‹_›]; exact (List.getElem?_eq_some_iff.1 hx).1
      · rw [if_neg ‹_›]; exact (List.getElem?_eq_some_iff.1 hx).1
    obtain ⟨x', e, h1, h2, h3⟩ := hS.get hlt
    by_cases hk : k < i
    · rw [if_pos hk] at hx ⊢
      simp only [if_pos hk] at h1 h2 ⊢
      rw [hx] at h1; cases h1
      exact ⟨e, h2, h3, .inr ⟨x, hx, rfl⟩⟩
    · rw [if_neg hk] at hx ⊢
      simp only [if_neg hk] at h1 h2 ⊢
      rw [hx] at h1; cases h1
      exact ⟨e, h2, h3, .inr ⟨x, hx, rfl⟩⟩
  · split <;> split <;> omega

theorem get_ins {α : Type} (l : List α) (i k : Nat) (y : α) (hi : i ≤ l.length) : (l.take i ++ [y] ++ l.drop i)[k]? = if k < i then l[k]? else if k = i then some y else l[k - 1]? := by
  have h1 : (l.take i).length = i := by rw [List.length_take]; omega
  rw [List.append_assoc, List.getElem?_append, h1]
  split
  · rw [List.getElem?_take, if_pos ‹_›]
  · rw [List.getElem?_append]
    simp only [List.length_singleton]
    by_cases hk : k = i
    · subst hk; simp
    · rw [if_neg (by omega), if_neg hk, List.getElem?_drop]
      congr 1
      omega

theorem Lay.ins {m : Pool} {hs : List HE} {es : List Ent} (hS : Lay m hs es) {i : Nat} (hi : i ≤ es.length) {x : HE} (hx : x.2.2.2.2.2 = Hd.nil) : Lay m (hs.take i ++ [x] ++ hs.drop i) (es.take i ++ [wr x []] ++ es.drop i) := by
  have hl := hS.len
  have hn : blk x.2.2.2.2.2 = none := by rw [hx]; rfl
  refine hS.re (fun k => if k < i then k else k - 1) (by simp [hl]) (fun k y hy => ?_) (fun k l hkl h1 h2 => ?_)
  · rw [get_ins _ _ _ _ (by omega)] at hy ⊢
    by_cases hk : k < i
    · rw [if_pos hk] at hy ⊢
      simp only [if_pos hk]
      obtain ⟨x', e, g1, g2, g3⟩ := hS.get (i := k) (by omega)
      rw [hy] at g1; cases g1
      exact ⟨e, g2, g3, .inr ⟨y, hy, rfl⟩⟩
    · rw [if_neg hk] at hy ⊢
      by_cases hk2 : k = i
      · rw [if_pos hk2] at hy ⊢
        cases hy
        exact ⟨_, rfl, ⟨rfl, by show Lies m x.2.2.2.2.2 []; rw [hx]; exact Lies.nil m⟩, .inl hn⟩
      · rw [if_neg hk2] at hy ⊢
        simp only [if_neg hk]
        obtain ⟨x', e, g1, g2, g3⟩ := hS.get (i := k - 1) (by rw [← hl]; exact (List.getElem?_eq_some_iff.1 hy).1)
        rw [hy] at g1; cases g1
        exact ⟨e, g2, g3, .inr ⟨y, hy, rfl⟩⟩
  · have key : ∀ k, (∃ y, (hs.take i ++ [x] ++ hs.drop i)[k]? = some y ∧ blk y.2.2.2.2.2 ≠ none) → k ≠ i := by
      rintro k ⟨y, g1, g2⟩ rfl
      rw [get_ins _ _ _ _ (by omega), if_neg (by omega), if_pos rfl] at g1
      cases g1
      exact g2 hn
    have h3 := key k h1
    have h4 := key l h2
    split <;> split <;> omega

/-- One entry anew. -/
theorem Lay.upd {m m' : Pool} {hs : List HE} {es : List Ent} (hS : Lay m hs es) {i : Nat} {x x' : HE} {e' : Ent} (hx : hs[i]? = some x) (h1 : At m' x' e')
    (hb : blk x'.2.2.2.2.2 = blk x.2.2.2.2.2 ∨ ∀ b, blk x'.2.2.2.2.2 = some b → pfind m b = none) (hk : Keeps x.2.2.2.2.2 m m') : Lay m' (hs.set i x') (es.set i e') := by
  have hl := hS.len
  have hi' : i < hs.length := (List.getElem?_eq_some_iff.1 hx).1
  have far : ∀ j y, i ≠ j → hs[j]? = some y → ∀ b, blk x'.2.2.2.2.2 = some b → blk y.2.2.2.2.2 ≠ some b := by
    intro j y hij hy b hb'
    rcases hb with e | e
    · exact hS.apart i j x y hij hx hy b (e ▸ hb')
    · intro e2
      have hn := e b hb'
      have hjl : j < es.length := by rw [← hl]; exact (List.getElem?_eq_some_iff.1 hy).1
      obtain ⟨y', ey, g1, g2, _, g3⟩ := hS.get hjl
      rw [hy] at g1; cases g1
      obtain ⟨_, _, h3 | ⟨b2, ys, cap, h3, h4, _⟩⟩ := g3
      · simp only [blk, if_pos h3] at e2
        cases e2
      · simp only [blk, h3] at e2
        split at e2
        · cases e2
        · simp only [Option.map_some, Option.some.injEq] at e2
          subst e2
          rw [hn] at h4
          cases h4
  refine ⟨by simp [hl], fun j y e hy he => ?_, fun j k y z hjk hy hz b => ?_⟩
  · rw [List.getElem?_set] at hy he
    by_cases hij : i = j
    · subst hij
      rw [if_pos rfl, if_pos hi'] at hy
      rw [if_pos rfl, if_pos (by omega)] at he
      cases hy; cases he
      exact h1
    · rw [if_neg hij] at hy he
      obtain ⟨g1, g2⟩ := hS.row j y e hy he
      exact ⟨g1, g2.other hk (hS.apart i j x y hij hx hy)⟩
  · rw [List.getElem?_set] at hy hz
    by_cases hij : i = j
    · subst hij
      rw [if_pos rfl, if_pos hi'] at hy
      cases hy
      rw [if_neg hjk] at hz
      exact far k z hjk hz b
    · rw [if_neg hij] at hy
      by_cases hik : i = k
      · subst hik
        rw [if_pos rfl, if_pos hi'] at hz
        cases hz
        exact fun g g2 => far j y hij hy b g2 g
      · rw [if_neg hik] at hz
        exact hS.apart j k y z hjk hy hz b

abbrev TT : Ty := .pair (.int .i64) (.pair (.int .i64) (.pair .bool (.pair .bool (.pair .bool .hnd))))

theorem Lay.okRows {m : Pool} {hs : List HE} {es : List Ent} (hS : Lay m hs es) : okRows m TT hs := fun x hx => by
  obtain ⟨i, hi, rfl⟩ := List.getElem_of_mem hx
  obtain ⟨y, e, h1, h2, _, h3⟩ := hS.get (i := i) (by rw [← hS.len]; exact hi)
  have h1' : some hs[i] = some y := (List.getElem?_eq_getElem hi).symm.trans h1
  cases h1'
  exact ⟨trivial, trivial, trivial, trivial, trivial, h3.ok⟩

theorem Lay.fz {m : Pool} {hs : List HE} {es : List Ent} (hS : Lay m hs es) : (List.map (fz m TT) hs : List (Int × (Int × (Bool × (Bool × (Bool × List Int)))))) = es := by
  have h : (hs.map fun x : HE => wr x (x.2.2.2.2.2.get m)) = es := by
    apply List.ext_getElem
    · simp [hS.len]
    · intro i h1 h2
      have h3 : i < hs.length := by simpa using h1
      obtain ⟨y, e, g1, g2, g3, g4⟩ := hS.get h2
      rw [List.getElem?_eq_getElem h3] at g1
      rw [List.getElem?_eq_getElem h2] at g2
      cases g1; cases g2
      simp only [List.getElem_map]
      rw [g4.get, ← g3]
  exact h

theorem getD_of {α : Type} {l : List α} {i : Nat} {x : α} (d : α) (h : l[i]? = some x) : l.getD i d = x := by simp [List.getD, h]

end Mq
end Go.Proofs.Ytpfcgenmgddgpaa

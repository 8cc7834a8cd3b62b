/-
  Sorted blocks of a list, and what a merge of two sorted parts needs: plain lists. Conditions: none.
-/
set_option linter.unusedVariables false
namespace Go.Proofs.Ytjlejiefkmimiaa
namespace Sr
variable {α : Type}

theorem getD_at (p q : List α) (x d : α) {i : Nat} (hi : i = p.length) : (p ++ x :: q).getD i d = x := by
  subst hi
  simp [List.getD_eq_getElem?_getD]

theorem set_at (p q : List α) (x y : α) {i : Nat} (hi : i = p.length) : (p ++ x :: q).set i y = p ++ y :: q := by
  subst hi
  simp

theorem swap1 (p m q : List α) (x y d : α) {i k : Nat} (hi : i = p.length) (hk : k = p.length + 1 + m.length) :
    ((p ++ x :: (m ++ y :: q)).set i ((p ++ x :: (m ++ y :: q)).getD k d)).set k ((p ++ x :: (m ++ y :: q)).getD i d) = p ++ y :: (m ++ x :: q) := by
  have e : ∀ u : α, p ++ u :: (m ++ y :: q) = (p ++ u :: m) ++ y :: q := fun u => by simp
  have hk' : ∀ u : α, k = (p ++ u :: m).length := fun u => by simp; omega
  rw [getD_at p _ x d hi, set_at p _ x _ hi, e x, getD_at _ q y d (hk' x), e y, set_at _ q y x (hk' y)]
  simp

theorem swap2 (p m q : List α) (x y d : α) {i k : Nat} (hi : i = p.length) (hk : k = p.length + 1 + m.length) :
    ((p ++ x :: (m ++ y :: q)).set k ((p ++ x :: (m ++ y :: q)).getD i d)).set i ((p ++ x :: (m ++ y :: q)).getD k d) = p ++ y :: (m ++ x :: q) := by
  have e : ∀ u : α, p ++ u :: (m ++ y :: q) = (p ++ u :: m) ++ y :: q := fun u => by simp
  have hk' : ∀ u : α, k = (p ++ u :: m).length := fun u => by simp; omega
  rw [getD_at p _ x d hi, e x, set_at _ q y x (hk' x), getD_at _ q y d (hk' x)]
  simp only [List.append_assoc, List.cons_append]
  rw [set_at p _ x y hi]

/-- A list cut at a number. -/
theorem cut {l : List α} {i : Nat} (h : i < l.length) : ∃ (p q : List α) (x : α), l = p ++ x :: q ∧ p.length = i :=
  ⟨l.take i, l.drop (i + 1), l[i], by rw [← List.drop_eq_getElem_cons h, List.take_append_drop], by simp; omega⟩

/-- What a comparison tells: 'before' is an order, and a comparison of a later element with an earlier one tells it. -/
structure Ord (cm : α → α → Int) (B : α → α → Prop) : Prop where
  trans : ∀ x y z, B x y → B y z → B x z
  cmp : ∀ x y, B x y → ¬ cm y x < 0

/-- x may stand ahead of y: the comparison tells their order. -/
def Ah (cm : α → α → Int) (B : α → α → Prop) (x y : α) : Prop := (cm y x < 0 → B y x) ∧ (¬ cm y x < 0 → B x y)

theorem Ord.ah {cm : α → α → Int} {B : α → α → Prop} (o : Ord cm B) {x y : α} (h : B x y) : Ah cm B x y := ⟨fun g => absurd g (o.cmp x y h), fun _ => h⟩

variable {B : α → α → Prop}

theorem pw_lt {l : List α} (h : l.Pairwise B) {i j : Nat} {x y : α} (hij : i < j) (hx : l[i]? = some x) (hy : l[j]? = some y) : B x y := by
  obtain ⟨h1, rfl⟩ := List.getElem?_eq_some_iff.1 hx
  obtain ⟨h2, rfl⟩ := List.getElem?_eq_some_iff.1 hy
  exact List.pairwise_iff_getElem.1 h i j h1 h2 hij

theorem pw_le (ht : ∀ x y z, B x y → B y z → B x z) {l : List α} (h : l.Pairwise B) {i j : Nat} {x y z : α} (hij : i ≤ j) (hx : l[i]? = some x) (hy : l[j]? = some y) (hyz : B y z) : B x z := by
  rcases Nat.lt_or_eq_of_le hij with g | rfl
  · exact ht _ _ _ (pw_lt h g hx hy) hyz
  · rw [hx] at hy; cases hy; exact hyz

theorem pw_ge (ht : ∀ x y z, B x y → B y z → B x z) {l : List α} (h : l.Pairwise B) {i j : Nat} {x y z : α} (hij : i ≤ j) (hx : l[i]? = some x) (hy : l[j]? = some y) (hzx : B z x) : B z y := by
  rcases Nat.lt_or_eq_of_le hij with g | rfl
  · exact ht _ _ _ hzx (pw_lt h g hx hy)
  · rw [hx] at hy; cases hy; exact hzx

theorem mem_take {l : List α} {n : Nat} {x : α} (h : x ∈ l.take n) : ∃ i, i < n ∧ l[i]? = some x := by
  obtain ⟨i, hi, rfl⟩ := List.getElem_of_mem h
  rw [List.length_take] at hi
  exact ⟨i, by omega, by rw [List.getElem_take]; simp⟩

theorem mem_drop {l : List α} {n : Nat} {x : α} (h : x ∈ l.drop n) : ∃ i, n ≤ i ∧ i < l.length ∧ l[i]? = some x := by
  obtain ⟨i, hi, rfl⟩ := List.getElem_of_mem h
  rw [List.length_drop] at hi
  exact ⟨n + i, by omega, by omega, by rw [List.getElem_drop]; simp⟩

theorem get_some {l : List α} {i : Nat} (h : i < l.length) : ∃ x, l[i]? = some x := ⟨l[i], by simp [h]⟩

theorem sm_split (ht : ∀ x y z, B x y → B y z → B x z) {L R : List α} (hL : L.Pairwise B) (hR : R.Pairwise B) {d s lo hi : Nat} (hd : d = (L.length + R.length) / 2)
    (hlo : lo = if d < L.length then d - R.length else 0) (hhi : hi = if d < L.length then d else L.length) (h1 : lo ≤ s) (h2 : s ≤ hi)
    (hs1 : ∀ u x y, lo ≤ u → u < s → L[u]? = some x → R[d - 1 - u]? = some y → B x y) (hs2 : ∀ u x y, s ≤ u → u < hi → L[u]? = some x → R[d - 1 - u]? = some y → B y x) :
    ∀ x, x ∈ L.take s ++ R.take (d - s) → ∀ y, y ∈ L.drop s ++ R.drop (d - s) → B x y := by
  intro x hx y hy
  have hsd : s ≤ d := by split at hhi <;> omega
  rcases List.mem_append.1 hx with hx | hx <;> rcases List.mem_append.1 hy with hy | hy
  · obtain ⟨i, hi1, hi2⟩ := mem_take hx
    obtain ⟨j, hj1, hj2, hj3⟩ := mem_drop hy
    exact pw_lt hL (by omega) hi2 hj3
  · obtain ⟨i, hi1, hi2⟩ := mem_take hx
    obtain ⟨j, hj1, hj2, hj3⟩ := mem_drop hy
    have hil : i < L.length := (List.getElem?_eq_some_iff.1 hi2).1
    by_cases hslo : s ≤ lo
    · exfalso
      split at hlo <;> omega
    · obtain ⟨u, hu⟩ := get_some (l := L) (i := s - 1) (by split at hhi <;> omega)
      obtain ⟨v, hv⟩ := get_some (l := R) (i := d - s) (by omega)
      have huv : B u v := hs1 (s - 1) u v (by omega) (by omega) hu (by rw [show d - 1 - (s - 1) = d - s by omega]; exact hv)
      exact pw_le ht hL (by omega) hi2 hu (pw_ge ht hR hj1 hv hj3 huv)
  · obtain ⟨i, hi1, hi2⟩ := mem_take hx
    obtain ⟨j, hj1, hj2, hj3⟩ := mem_drop hy
    have hil : i < R.length := (List.getElem?_eq_some_iff.1 hi2).1
    by_cases hshi : hi ≤ s
    · exfalso
      split at hhi <;> omega
    · obtain ⟨u, hu⟩ := get_some (l := L) (i := s) (by split at hhi <;> omega)
      obtain ⟨v, hv⟩ := get_some (l := R) (i := d - 1 - s) (by split at hlo <;> split at hhi <;> omega)
      have hvu : B v u := hs2 s u v (Nat.le_refl _) (by omega) hu hv
      exact pw_le ht hR (by omega) hi2 hv (pw_ge ht hL hj1 hu hj3 hvu)
  · obtain ⟨i, hi1, hi2⟩ := mem_take hx
    obtain ⟨j, hj1, hj2, hj3⟩ := mem_drop hy
    exact pw_lt hR (by omega) hi2 hj3

theorem sm_join {L1 L2 R1 R2 S1 S2 : List α} (p1 : S1.Perm (L1 ++ R1)) (p2 : S2.Perm (L2 ++ R2)) (w1 : S1.Pairwise B) (w2 : S2.Pairwise B) (h : ∀ x, x ∈ L1 ++ R1 → ∀ y, y ∈ L2 ++ R2 → B x y) :
    (S1 ++ S2).Perm ((L1 ++ L2) ++ (R1 ++ R2)) ∧ (S1 ++ S2).Pairwise B := by
  refine ⟨?_, List.pairwise_append.2 ⟨w1, w2, fun x hx y hy => h x (p1.mem_iff.1 hx) y (p2.mem_iff.1 hy)⟩⟩
  refine (p1.append p2).trans ?_
  simp only [List.append_assoc]
  refine List.Perm.append_left _ ?_
  rw [← List.append_assoc, ← List.append_assoc]
  exact List.Perm.append_right _ List.perm_append_comm

theorem ins_left {x : α} {R : List α} {i : Nat} (hR : R.Pairwise B) (h1 : ∀ y, y ∈ R.take i → B y x) (h2 : ∀ y, y ∈ R.drop i → B x y) :
    (R.take i ++ x :: R.drop i).Perm (x :: R) ∧ (R.take i ++ x :: R.drop i).Pairwise B := by
  refine ⟨?_, ?_⟩
  · refine List.perm_middle.trans ?_
    rw [List.take_append_drop]
  · rw [← List.take_append_drop i R, List.pairwise_append] at hR
    obtain ⟨a, b, c⟩ := hR
    refine List.pairwise_append.2 ⟨a, List.pairwise_cons.2 ⟨h2, b⟩, fun u hu v hv => ?_⟩
    rcases List.mem_cons.1 hv with rfl | hv
    · exact h1 u hu
    · exact c u hu v hv

/-- A list of sorted blocks of bs elements, the last with fewer. -/
inductive Bks (B : α → α → Prop) (bs : Nat) : List α → Prop where
  | last (l : List α) (h : l.length ≤ bs) (w : l.Pairwise B) : Bks B bs l
  | cons (l r : List α) (h : l.length = bs) (w : l.Pairwise B) (t : Bks B bs r) : Bks B bs (l ++ r)

theorem Bks.nil (bs : Nat) : Bks B bs ([] : List α) := .last [] (Nat.zero_le _) .nil

theorem Bks.two {bs : Nat} {l : List α} (h : Bks B bs l) (hl : 2 * bs ≤ l.length) (h0 : 0 < bs) : ∃ a b r, l = a ++ (b ++ r) ∧ a.length = bs ∧ b.length = bs ∧ a.Pairwise B ∧ b.Pairwise B ∧ Bks B bs r := by
  cases h with
  | last _ h w => omega
  | cons a r h w t =>
    rw [List.length_append] at hl
    cases t with
    | last _ h2 w2 => exact ⟨a, r, [], by simp, h, by omega, w, w2, .nil bs⟩
    | cons b r h2 w2 t => exact ⟨a, b, r, rfl, h, h2, w, w2, t⟩

theorem Bks.rest {bs : Nat} {l : List α} (h : Bks B bs l) (hl : l.length < 2 * bs) (h1 : bs < l.length) : ∃ a b, l = a ++ b ∧ a.length = bs ∧ a.Pairwise B ∧ b.Pairwise B := by
  cases h with
  | last _ h w => omega
  | cons a r h w t =>
    rw [List.length_append] at hl h1
    cases t with
    | last _ h2 w2 => exact ⟨a, r, rfl, h, w, w2⟩
    | cons b r h2 w2 t => rw [List.length_append] at hl; omega

theorem Bks.one {bs : Nat} {l : List α} (h : Bks B bs l) (hl : l.length ≤ bs) (h0 : 0 < bs) : l.Pairwise B := by
  cases h with
  | last _ h w => exact w
  | cons a r h w t =>
    rw [List.length_append] at hl
    have : r = [] := List.length_eq_zero_iff.1 (by omega)
    rw [this, List.append_nil]
    exact w

/-- A beginning that is cut in blocks. -/
def Pre (B : α → α → Prop) (bs : Nat) (p : List α) : Prop := ∀ r, Bks B bs r → Bks B bs (p ++ r)

theorem Pre.nil (bs : Nat) : Pre B bs ([] : List α) := fun _ h => h
theorem Pre.snoc {bs : Nat} {p s : List α} (h : Pre B bs p) (hs : s.length = bs) (w : s.Pairwise B) : Pre B bs (p ++ s) := fun r hr => by
  rw [List.append_assoc]
  exact h _ (.cons s r hs w hr)

theorem pw_mid {R : α → α → Prop} {p m m' q : List α} (h : (p ++ (m ++ q)).Pairwise R) (hp : m'.Perm m) (hm : m'.Pairwise R) : (p ++ (m' ++ q)).Pairwise R := by
  obtain ⟨a, b, c⟩ := List.pairwise_append.1 h
  obtain ⟨d, e, f⟩ := List.pairwise_append.1 b
  refine List.pairwise_append.2 ⟨a, List.pairwise_append.2 ⟨hm, e, fun x hx y hy => f x (hp.mem_iff.1 hx) y hy⟩, fun x hx y hy => ?_⟩
  rcases List.mem_append.1 hy with hy | hy
  · exact c x hx y (List.mem_append_left _ (hp.mem_iff.1 hy))
  · exact c x hx y (List.mem_append_right _ hy)

theorem perm_mid {p m m' q : List α} (hp : m'.Perm m) : (p ++ (m' ++ q)).Perm (p ++ (m ++ q)) := List.Perm.append_left _ (List.Perm.append_right _ hp)

theorem pw_ah {cm : α → α → Int} (o : Ord cm B) {l : List α} (h : l.Pairwise B) : l.Pairwise (Ah cm B) := h.imp fun g => o.ah g
end Sr

end Go.Proofs.Ytjlejiefkmimiaa

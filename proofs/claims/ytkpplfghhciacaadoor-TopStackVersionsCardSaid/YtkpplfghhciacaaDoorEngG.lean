/-
  Append to a row that the run itself has made. Conditions: the new length stays small.
-/
import Derived.Test.YtkpplfghhciacaaDoorEngF
set_option linter.unusedVariables false
set_option linter.unusedSimpArgs false
namespace Go.Proofs.YtkpplfghhciacaaDoor
namespace Eng
open Go.RowKit

theorem drew_rel {w0 : Base} {c : Cfg} (hr : Rel w0 c) : Rel w0 { c with w := c.w.drew } ∧ Ext c { c with w := c.w.drew } := by
  have hx : Ext c { c with w := c.w.drew } := {
    size := Nat.le_refl _
    sub := fun _ _ h => h
    cells := fun _ _ _ => rfl
    len := Nat.le_refl _
    keep := fun r ob _ h => by
      cases ob with
      | dead => trivial
      | cells cs => exact ⟨⟨cs, h⟩, rfl⟩
      | pool m => exact ⟨m, h⟩
      | vec t f xs => exact ⟨f, xs, h, rfl, rfl, fun _ _ _ h => h⟩ }
  exact ⟨{ below := hr.below.drew, pl := PoolOk.keep hr.pl (fun _ _ h => h) (fun r b h hb => .inl ⟨r, h, hb⟩) (fun _ _ h => .inl h) (fun _ _ _ _ => rfl), inj := hr.inj, fresh := hr.fresh, bound := hr.bound, newA := hr.newA,
           obj := fun r ob h => OkOb.keep hx rfl (fun _ _ => rfl) (fun _ _ _ h => h) (hr.obj r ob h) }, hx⟩

/-- A block that nobody owns any more, taken over by a new object. -/
def adoptC (c : Cfg) (b : Nat) (ce : Array Value) (ob : Ob) : Cfg :=
  { c with w := c.w.setRow b ce, bl := fun r => if r = c.st.length then some b else c.bl r, st := c.st ++ [ob] }

theorem adopt_rel {w0 : Base} {c : Cfg} (hr : Rel w0 c) {b : Nat} {ce0 ce : Array Value} {e : TypeId} {ob : Ob} (hb : w0.may b) (hfree : ∀ r, live c.st r → c.bl r ≠ some b)
    (hheap : c.w.heap[b]? = some (.cells ce0 e (0, 0))) (hA : ∀ o, c.A b o → ce[o]? = ce0[o]?) (hob : OkOb (adoptC c b ce ob) c.st.length ob)
    (hfp : ∀ (r : Nat) (m : Pool) (row : List Int × Nat), c.st[r]? = some (Ob.pool m) → (b, row) ∉ m) (hnp : ∀ m, ob ≠ Ob.pool m := by intro m h; cases h) :
    Rel w0 (adoptC c b ce ob) ∧ Ext c (adoptC c b ce ob) := by
  have hblt : b < c.w.heap.size := (Array.getElem?_eq_some_iff.1 hheap).1
  have hcell : ∀ b' o, c.A b' o → (c.w.setRow b ce).cell? ⟨b', o, none⟩ = c.w.cell? ⟨b', o, none⟩ := fun b' o h => by
    by_cases hbb : b' = b
    · subst hbb
      rw [cell_of_row _ _ _ _ _ _ hheap, cell_of_row _ _ _ _ _ _ (setRow_heap c.w b' ce0 ce e _ hheap)]
      exact hA o h
    · exact World.cell?_of_block (w := c.w) (setRow_other c.w b b' ce hbb)
  have hx : Ext c (adoptC c b ce ob) := {
    size := by simp [adoptC]
    sub := fun _ _ h => h
    cells := hcell
    len := by simp [adoptC]
    keep := fun r ob' hrl h => by
      simp only [adoptC] at h
      rw [List.getElem?_append_left hrl] at h
      have hbr : (adoptC c b ce ob).bl r = c.bl r := by simp only [adoptC]; rw [if_neg (by omega)]
      cases ob' with
      | dead => trivial
      | cells cs => exact ⟨⟨cs, h⟩, hbr⟩
      | pool m => exact ⟨m, h⟩
      | vec t f xs =>
        refine ⟨f, xs, h, rfl, hbr, fun b' n hbb hrows => ?_⟩
        obtain ⟨ce', e', fz, h1, h2⟩ := hrows
        have hne : b' ≠ b := fun hh => hfree r (live_of h (by simp)) (hh ▸ hbb)
        exact ⟨ce', e', fz, by simp only [adoptC]; rw [setRow_other _ _ _ _ hne]; exact h1, h2⟩ }
  refine ⟨?_, hx⟩
  have hlive : ∀ r, live (adoptC c b ce ob).st r → (r < c.st.length ∧ live c.st r ∧ (adoptC c b ce ob).bl r = c.bl r) ∨ (r = c.st.length ∧ (adoptC c b ce ob).bl r = some b) := by
    intro r h
    have h1 := live_lt h
    simp only [adoptC, List.length_append, List.length_singleton] at h1
    rcases Nat.lt_or_ge r c.st.length with g | g
    · refine .inl ⟨g, ?_, ?_⟩
      · unfold live at h ⊢
        simp only [adoptC] at h
        rw [List.getElem?_append_left g] at h
        exact h
      · simp only [adoptC]; rw [if_neg (by omega)]
    · obtain rfl : r = c.st.length := by omega
      exact .inr ⟨rfl, by simp [adoptC]⟩
  exact {
    below := Kept.setRow hr.below hb _
    inj := fun r r' b' h h' hb1 hb2 => by
      rcases hlive r h with ⟨g, g1, g2⟩ | ⟨g, g2⟩ <;> rcases hlive r' h' with ⟨k, k1, k2⟩ | ⟨k, k2⟩
      · exact hr.inj r r' b' g1 k1 (g2 ▸ hb1) (k2 ▸ hb2)
      · rw [k2] at hb2; cases hb2
        exact absurd (g2 ▸ hb1) (hfree r g1)
      · rw [g2] at hb1; cases hb1
        exact absurd (k2 ▸ hb2) (hfree r' k1)
      · omega
    fresh := fun r b' h hb1 => by
      rcases hlive r h with ⟨g, g1, g2⟩ | ⟨g, g2⟩
      · exact hr.fresh r b' g1 (g2 ▸ hb1)
      · rw [g2] at hb1; cases hb1; exact hb
    bound := fun b' o h => by simp only [adoptC, setRow_size]; exact hr.bound b' o h
    newA := hr.newA
    obj := fun r ob' h => by
      rcases get_push h with ⟨g, h1⟩ | ⟨rfl, rfl⟩
      · have hbr : (adoptC c b ce ob).bl r = c.bl r := by simp only [adoptC]; rw [if_neg (by omega)]
        cases ob' with
        | dead => trivial
        | _ =>
          refine OkOb.keep hx hbr (fun b' hbb => ?_) (fun _ _ _ h => h) (hr.obj r _ h1)
          exact setRow_other _ _ _ _ (fun hh => hfree r (live_of h1 (by simp)) (hh ▸ hbb))
      · exact hob
    pl := PoolOk.keep hr.pl (fun r m h => by
        rcases get_push h with ⟨_, h1⟩ | ⟨_, h1⟩
        · exact h1
        · exact absurd h1.symm (hnp m)) (fun r b' h hb' => by
        rcases hlive r h with ⟨g, g1, g2⟩ | ⟨g, g2⟩
        · exact .inl ⟨r, g1, g2 ▸ hb'⟩
        · rw [g2] at hb'; cases hb'; exact .inr (.inr hfp)) (fun _ _ h => .inl h)
        (fun b' _ _ ⟨r, m, row, h1, h2⟩ => setRow_other _ _ _ _ (fun hh => hfp r m row h1 (hh ▸ h2))) }

theorem RoV.one {w : World} {A : Nat → Nat → Prop} : ∀ {t : Ty} {x : t.den} {us : List Value}, RoV w A t x us → ∀ u, u ∈ us → u.oneCell' = true
  | .int _, _, _, h, u, hu | .bool, _, _, h, u, hu | .str, _, _, h, u, hu | .unit, _, _, h, u, hu | .hnd, _, _, h, u, hu => by
    simp only [RoV] at h; subst h; simp at hu <;> (subst hu; rfl)
  | .pair a b, _, _, h, u, hu => by
    obtain ⟨us1, us2, rfl, h1, h2⟩ := h
    rcases List.mem_append.1 hu with g | g
    · exact RoV.one h1 u g
    · exact RoV.one h2 u g
  | .slice e, _, _, h, u, hu => by
    rcases h with ⟨rfl, _⟩ | ⟨b, o, sp, cap, rfl, _⟩ <;> (simp at hu; subst hu; rfl)

theorem RowsR.append {α : Type} {R : α → List Value → Prop} {s : Nat} {xs ys : List α} {l1 l2 l3 : List Value} (h1 : RowsR R s xs l1) (e1 : l1.length = xs.length * s)
    (h2 : RowsR R s ys l2) (e2 : l2.length = ys.length * s) : RowsR R s (xs ++ ys) (l1 ++ l2 ++ l3) := by
  intro i y hy
  rw [List.getElem?_append] at hy
  split at hy
  · next hi =>
    have hm : (i + 1) * s ≤ xs.length * s := Nat.mul_le_mul_right _ hi
    rw [Nat.add_mul, Nat.one_mul] at hm
    have := h1 i y hy
    rw [List.append_assoc, List.drop_append_of_le_length (by omega), List.take_append_of_le_length (by simp; omega)]
    exact this
  · next hi =>
    have hi2 : i - xs.length < ys.length := (List.getElem?_eq_some_iff.1 hy).1
    have hm : (i - xs.length + 1) * s ≤ ys.length * s := Nat.mul_le_mul_right _ hi2
    rw [Nat.add_mul, Nat.one_mul] at hm
    have := h2 _ y hy
    have he : i * s = xs.length * s + (i - xs.length) * s := by rw [← Nat.add_mul]; congr 1; omega
    rw [List.append_assoc, List.drop_append, List.drop_of_length_le (by omega), List.nil_append, he, e1, Nat.add_sub_cancel_left, List.drop_append_of_le_length (by omega), List.take_append_of_le_length (by simp; omega)]
    exact this

theorem RowsR.take {α : Type} {R : α → List Value → Prop} {s : Nat} {xs : List α} {l : List Value} (h : RowsR R s xs l) (hl : xs.length * s ≤ l.length) : RowsR R s xs (l.take (xs.length * s)) := by
  intro i y hy
  have hi : i < xs.length := (List.getElem?_eq_some_iff.1 hy).1
  have hm : (i + 1) * s ≤ xs.length * s := Nat.mul_le_mul_right _ hi
  rw [Nat.add_mul, Nat.one_mul] at hm
  have := h i y hy
  rw [List.drop_take, List.take_take, Nat.min_eq_left (by omega)]
  exact this

theorem RowsR.one {w : World} {A : Nat → Nat → Prop} {t : Ty} {xs : List t.den} {l : List Value} (h : RowsR (RoV w A t) t.size xs l) (hl : l.length = xs.length * t.size) (ht : 0 < t.size) : ∀ u, u ∈ l → u.oneCell' = true := by
  intro u hu
  obtain ⟨k, hk, rfl⟩ := List.getElem_of_mem hu
  have hkd : k / t.size < xs.length := Nat.div_lt_of_lt_mul (by rw [Nat.mul_comm]; omega)
  have h1 := h (k / t.size) _ (List.getElem?_eq_getElem hkd)
  refine RoV.one h1 _ (List.mem_of_getElem? (i := k % t.size) ?_)
  have hmod := Nat.mod_lt k ht
  have hdm := Nat.div_add_mod k t.size
  rw [List.getElem?_take, if_pos hmod, List.getElem?_drop, Nat.mul_comm, hdm]
  exact List.getElem?_eq_getElem hk

/-- The rows of a slice that is read. -/
def arows (st : List Ob) (t : Ty) : V → Option (List t.den)
  | .ro τ ys => if h : Ty.eqb τ t = true then some (Ty.eqb_eq h ▸ ys) else none
  | .vec r => match st[r]? with
    | some (.vec τ _ ys) => if h : Ty.eqb τ t = true then some (Ty.eqb_eq h ▸ ys) else none
    | _ => none
  | .vw r lo n => match st[r]? with
    | some (.vec τ _ ys) => if h : Ty.eqb τ t = true then some (Ty.eqb_eq h ▸ ((ys.drop lo).take n)) else none
    | _ => none
  | .x (.slice none 0 0) => some []
  | _ => none

theorem firstCells_cells {P : Program} (w : World) (b o n s len cap : Nat) (l : List Value) (hl : l.length = n * s) (hc : ∀ j u, l[j]? = some u → w.cell? ⟨b, o + j, none⟩ = some u) :
    (Builtin.firstCells s n (.slice (some ⟨b, o, none⟩) len cap)).run P w = .ok l.toArray w := by
  simp only [Builtin.firstCells]
  have := run_loadCells_list (P := P) w ⟨b, o, none⟩ l (fun j u hj => by rw [add_addr]; exact hc j u hj)
  rw [hl] at this
  exact this

theorem arows_sound {P : Program} {w0 : Base} {c : Cfg} (hr : Rel w0 c) {t : Ty} {v : V} {ys : List t.den} {u : Value} (h : arows c.st t v = some ys) (hv : RelV c v u) :
    (∃ a len cap, u = .slice a len cap) ∧ (Builtin.lenOf u).run P c.w = .ok ys.length c.w ∧
    ∃ l : List Value, l.length = ys.length * t.size ∧ (∀ w' : World, (∀ b o, w'.cell? ⟨b, o, none⟩ = c.w.cell? ⟨b, o, none⟩) → (Builtin.firstCells t.size ys.length u).run P w' = .ok l.toArray w') ∧ RowsR (RoV c.w c.A t) t.size ys l := by
  unfold arows at h
  split at h
  · next τ zs =>
    split at h
    · next he =>
      obtain rfl := Ty.eqb_eq he
      have h' : some zs = some ys := h
      cases h'
      simp only [RelV, RoV, SlV] at hv
      rcases hv with ⟨h1, rfl⟩ | ⟨b, o, sp, cap, h1, hsp, hle, hrow⟩ <;> (simp only [List.cons.injEq, and_true] at h1; subst h1)
      · exact ⟨⟨_, _, _, rfl⟩, rfl, [], by simp, fun _ _ => rfl, fun i y hy => by simp at hy⟩
      · by_cases hxs : zs = []
        · subst hxs
          exact ⟨⟨_, _, _, rfl⟩, rfl, [], by simp, fun w' _ => by simp [Builtin.firstCells, loadCells, loadCellsFrom], fun i y hy => by simp at hy⟩
        obtain rfl := hsp hxs
        refine ⟨⟨_, _, _, rfl⟩, rfl, (List.range (zs.length * τ.size)).map (fun j => (c.w.cell? ⟨b, o + j, none⟩).getD undef), by simp, ?_, ?_⟩
        · intro w' hw'
          refine firstCells_cells w' b o _ _ _ _ _ (by simp) fun j u hj => ?_
          rw [hw']
          rw [List.getElem?_map] at hj
          simp only [Option.map_eq_some_iff] at hj
          obtain ⟨k, hk, hj⟩ := hj
          obtain ⟨hkl, rfl⟩ : j < zs.length * τ.size ∧ k = j := by
            have := List.getElem?_eq_some_iff.1 hk
            obtain ⟨hkl, hk2⟩ := this
            simp at hkl hk2
            exact ⟨hkl, hk2.symm⟩
          have hpos : 0 < τ.size := by
            rcases Nat.eq_zero_or_pos τ.size with g | g
            · rw [g] at hkl; simp at hkl
            · exact g
          have hkd : k / τ.size < zs.length := Nat.div_lt_of_lt_mul (by rw [Nat.mul_comm]; omega)
          obtain ⟨cs, hcs, hro, hcell⟩ := hrow _ _ (List.getElem?_eq_getElem hkd)
          have hmod := Nat.mod_lt k hpos
          have hdm := Nat.div_add_mod k τ.size
          have hg := (hcell (k % τ.size) _ (List.getElem?_eq_getElem (by omega))).1
          rw [show o + k / τ.size * τ.size + k % τ.size = o + k from by rw [Nat.mul_comm]; omega] at hg
          rw [hg] at hj ⊢
          simpa using hj
        · intro i y hy
          have hi : i < zs.length := (List.getElem?_eq_some_iff.1 hy).1
          have hm : (i + 1) * τ.size ≤ zs.length * τ.size := Nat.mul_le_mul_right _ hi
          rw [Nat.add_mul, Nat.one_mul] at hm
          obtain ⟨cs, hcs, hro, hcell⟩ := hrow i y hy
          have : (((List.range (zs.length * τ.size)).map (fun j => (c.w.cell? ⟨b, o + j, none⟩).getD undef)).drop (i * τ.size)).take τ.size = cs := by
            apply List.ext_getElem?
            intro j
            rw [List.getElem?_take]
            split
            · next hj =>
              rw [List.getElem?_drop, List.getElem?_map, List.getElem?_range (by omega)]
              have hg := hcell j _ (List.getElem?_eq_getElem (by omega))
              simp only [Option.map_some]
              rw [show o + (i * τ.size + j) = o + i * τ.size + j from by omega, hg.1]
              simp [List.getElem?_eq_getElem (show j < cs.length by omega)]
            · next hj => rw [List.getElem?_eq_none (by omega)]
          rw [this]
          exact hro
    · cases h
  · next r =>
    split at h
    · next τ f zs hst =>
      split at h
      · next he =>
        obtain rfl := Ty.eqb_eq he
        have h' : some zs = some ys := h
        cases h'
        simp only [RelV, hst] at hv
        obtain ⟨hp, hf, ⟨h1, rfl⟩ | ⟨b, ce, e, cap, h1, h2, h3, h4, h5, h6⟩⟩ := hr.obj r _ hst
        · rcases hv with ⟨_, rfl⟩ | ⟨b, cap, hb, _⟩
          · exact ⟨⟨_, _, _, rfl⟩, rfl, [], by simp, fun _ _ => rfl, fun i y hy => by simp at hy⟩
          · rw [h1] at hb; cases hb
        · rcases hv with ⟨hb, _⟩ | ⟨b', cap', hb, rfl, hrows⟩
          · rw [h1] at hb; cases hb
          · rw [h1] at hb; cases hb
            have hle : zs.length * τ.size ≤ ce.toList.length := by
              have hce : ce.toList.length = cap * τ.size := by simpa using h3
              rw [hce]; exact Nat.mul_le_mul_right _ h4
            refine ⟨⟨_, _, _, rfl⟩, rfl, ce.toList.take (zs.length * τ.size), by rw [List.length_take]; omega, ?_, RowsR.take h5 hle⟩
            intro w' hw'
            refine firstCells_cells w' b 0 _ _ _ _ _ (by rw [List.length_take]; omega) fun j u hj => ?_
            rw [hw']
            rw [List.getElem?_take] at hj
            split at hj
            · rw [Nat.zero_add, cell_of_row _ _ _ _ _ _ h2]; simpa using hj
            · cases hj
      · cases h
    · cases h
  · next r lo n =>
    split at h
    · next τ f zs hst =>
      split at h
      · next he =>
        obtain rfl := Ty.eqb_eq he
        have h' : some ((zs.drop lo).take n) = some ys := h
        cases h'
        simp only [RelV, hst] at hv
        obtain ⟨hlo, hv⟩ := hv
        have hlen : ((zs.drop lo).take n).length = n := by simp; omega
        rw [hlen]
        rcases hv with ⟨h1, rfl⟩ | ⟨b, cap, hb, rfl, hcap, hrows⟩ | ⟨rfl, _, a, rfl⟩
        · obtain ⟨_, _, ⟨_, rfl⟩ | ⟨b', ce, ty, cap, hb', _⟩⟩ := hr.obj r _ hst
          · have : n = 0 := by simp at hlo; omega
            subst this
            exact ⟨⟨_, _, _, rfl⟩, rfl, [], by simp, fun _ _ => rfl, fun i y hy => by simp at hy⟩
          · rw [h1] at hb'; cases hb'
        · obtain ⟨hp, hf, ⟨h1, rfl⟩ | ⟨b', ce, e, cap', h1, h2, h3, h4, h5, h6⟩⟩ := hr.obj r _ hst
          · rw [h1] at hb; cases hb
          rw [h1] at hb; cases hb
          have hce : ce.toList.length = cap' * τ.size := by simpa using h3
          have hmul : (lo + n) * τ.size ≤ zs.length * τ.size := Nat.mul_le_mul_right _ hlo
          have hmul2 : zs.length * τ.size ≤ cap' * τ.size := Nat.mul_le_mul_right _ h4
          rw [Nat.add_mul] at hmul
          refine ⟨⟨_, _, _, rfl⟩, rfl, (ce.toList.drop (lo * τ.size)).take (n * τ.size), by rw [List.length_take, List.length_drop]; omega, ?_, ?_⟩
          · intro w' hw'
            refine firstCells_cells w' b (lo * τ.size) _ _ _ _ _ (by rw [List.length_take, List.length_drop]; omega) fun j u hj => ?_
            rw [hw']
            rw [List.getElem?_take] at hj
            split at hj
            · rw [List.getElem?_drop] at hj
              rw [cell_of_row _ _ _ _ _ _ h2]; simpa using hj
            · cases hj
          · intro i y hy
            have hi : i < n := by
              have := (List.getElem?_eq_some_iff.1 hy).1
              omega
            rw [List.getElem?_take, if_pos hi, List.getElem?_drop] at hy
            have := h5 (lo + i) y hy
            have e1 : (((ce.toList.drop (lo * τ.size)).take (n * τ.size)).drop (i * τ.size)).take τ.size = (ce.toList.drop ((lo + i) * τ.size)).take τ.size := by
              have hin : (i + 1) * τ.size ≤ n * τ.size := Nat.mul_le_mul_right _ hi
              rw [Nat.add_mul, Nat.one_mul] at hin
              rw [List.drop_take, List.take_take, List.drop_drop, Nat.add_mul, Nat.min_eq_left (by omega)]
            rw [e1]
            exact this
        · exact ⟨⟨_, _, _, rfl⟩, rfl, [], by simp, fun w' _ => by simp [Builtin.firstCells, loadCells, loadCellsFrom], fun i y hy => by simp at hy⟩
      · cases h
    · cases h
  · cases h
    simp only [RelV] at hv
    subst hv
    exact ⟨⟨_, _, _, rfl⟩, rfl, [], by simp, fun _ _ => rfl, fun i y hy => by simp at hy⟩
  · cases h

/-- What an append may grow to. -/
def fits (n : Nat) : Prop := n ≤ 1073741824

theorem nextslicecap_le {need cap : Nat} (h : cap < need) : Builtin.nextslicecap need cap ≤ 2 * need + 1024 := by
  unfold Builtin.nextslicecap
  split
  · omega
  · split
    · omega
    · simp only [Builtin.growBy]
      repeat' split
      all_goals omega

/-- What an element type must look like to be appended. -/
def elemOk (P : Program) (e : TypeId) (t : Ty) : Bool :=
  match P.info? e with
  | some i => (i.size == t.size) && (decide (0 < t.size)) && (decide (i.bytes ≤ 65536)) && (decide (0 < i.bytes)) && (match i.zero with | some z => z.cells.size == i.size | none => false)
  | none => false

theorem elemOk_sound {P : Program} {e : TypeId} {t : Ty} (h : elemOk P e t = true) : ∃ i z, P.info? e = some i ∧ i.size = t.size ∧ 0 < t.size ∧ i.bytes ≤ 65536 ∧ 0 < i.bytes ∧ i.zero = some z ∧ z.cells.size = t.size := by
  unfold elemOk at h
  split at h
  · next i hi =>
    simp only [Bool.and_eq_true, beq_iff_eq, decide_eq_true_eq] at h
    obtain ⟨⟨⟨⟨h1, h2⟩, h3⟩, h4⟩, h5⟩ := h
    split at h5
    · next z hz =>
      simp only [beq_iff_eq] at h5
      exact ⟨i, z, hi, h1, h2, h3, h4, hz, h5.trans h1⟩
    · cases h5
  · cases h

def sliceArg (P : Program) (t : TypeId) : Bool := match P.underlying t with
  | some (.slice _) => true
  | some .string => true
  | _ => false

/-- The run of an append whose source is given by its cells: in place, or in a new block. -/
theorem run_append {P : Program} {w : World} {sT xT e : TypeId} {ts : Array TypeId} {ty : TypeId} {us : Array Value} {base : Option Addr} {sLen sCap n : Nat} {x : Value} {t : Ty}
    (ht0 : ts[0]? = some sT) (ht1 : ts[1]? = some xT) (hu0 : us[0]? = some (.slice base sLen sCap)) (hu1 : us[1]? = some x)
    (hs : P.underlying sT = some (.slice e)) (hx : sliceArg P xT = true) (hok : elemOk P e t = true) (hlen : (Builtin.lenOf x).run P w = .ok n w) (hfit : fits (sLen + n))
    {l : List Value} (hl : ∀ w', (∀ b o, w'.cell? ⟨b, o, none⟩ = w.cell? ⟨b, o, none⟩) → (Builtin.firstCells t.size n x).run P w' = .ok l.toArray w') {l0 : List Value} (hl0 : ∀ w', (∀ b o, w'.cell? ⟨b, o, none⟩ = w.cell? ⟨b, o, none⟩) → (Builtin.firstCells t.size sLen (.slice base sLen sCap)).run P w' = .ok l0.toArray w') :
    (sLen + n ≤ sCap ∧ (Builtin.append_ ts ty us).run P w = (match base with | some a => ((storeCells (a.add (sLen * t.size)) l).run P w).andThen fun _ w' => .ok (.slice base (sLen + n) sCap) w' | none => .ok (.slice base (sLen + n) sCap) w)) ∨
    (∃ cap rest, sLen + n ≤ cap ∧ rest.length = (cap - (sLen + n)) * t.size ∧
      (Builtin.append_ ts ty us).run P w = .ok (.slice (some ⟨w.heap.size, 0, none⟩) (sLen + n) cap) (w.drew.alloc (.cells (l0 ++ l ++ rest).toArray e)) ∧ ¬ sLen + n ≤ sCap) := by
  obtain ⟨i, z, hi, hsz, hpos, hb1, hb2, hz, hzs⟩ := elemOk_sound hok
  have hzr : ∀ w, (zeroValue e).run P w = .ok z w := fun w => by simp [zeroValue, typeInfo, hi, hz]
  obtain ⟨d, hud, hdc⟩ : ∃ d, P.underlying xT = some d ∧ ((∃ e', d = .slice e') ∨ d = .string) := by
    unfold sliceArg at hx
    split at hx
    · next e' he => exact ⟨_, he, .inl ⟨e', rfl⟩⟩
    · next he => exact ⟨_, he, .inr rfl⟩
    · cases hx
  have hti : ∀ w, (typeInfo e).run P w = .ok i w := fun w => by simp [typeInfo, hi]
  have hfalse : (underlying xT).run P w = .ok d w := run_underlying hud w
  have hfit' := hfit
  unfold fits at hfit'
  have h63 : ¬ (((sLen + n : Nat) : Int) > IntKind.i64.max ∧ (false = true ∨ i.bytes = 0)) := by
    rintro ⟨_, h | h⟩
    · cases h
    · omega
  rcases hdc with ⟨e', rfl⟩ | rfl
  all_goals unfold Builtin.append_
  all_goals simp only [ht0, ht1, hu0, hu1, Sem.run_bind, run_underlying hs, Result.andThen_ok, run_sizeOf' hi, hfalse, Sem.run_pure, Bool.false_eq_true, if_false, hlen, hsz]
  all_goals by_cases hc : sLen + n ≤ sCap
  · refine .inl ⟨hc, ?_⟩
    simp only [hc, if_true, Sem.run_bind, Bool.not_false, hl w (fun _ _ => rfl), Result.andThen_ok]
    cases base
    · rfl
    · simp
  rotate_left
  · refine .inl ⟨hc, ?_⟩
    simp only [hc, if_true, Sem.run_bind, Bool.not_false, hl w (fun _ _ => rfl), Result.andThen_ok]
    cases base
    · rfl
    · simp
  all_goals
    refine .inr ?_
    have hnx := nextslicecap_le (need := sLen + n) (cap := sCap) (by omega)
    have hbig : ¬ (Builtin.nextslicecap (sLen + n) sCap * i.bytes > 2 ^ 48) := by
      have : Builtin.nextslicecap (sLen + n) sCap * i.bytes ≤ (2 * (sLen + n) + 1024) * 65536 := Nat.mul_le_mul hnx hb1
      omega
    have hchoose : ∃ cap, sLen + n ≤ cap ∧ ∀ w' : World, w' = w → (choose (.appendCap (sLen + n) sCap e)).run P w' = .ok cap w'.drew := by
      refine ⟨(Question.appendCap (sLen + n) sCap e).cut (w.tape w.drawn (.appendCap (sLen + n) sCap e)), ?_, fun w' hw => ?_⟩
      · simp only [Question.cut]; omega
      · subst hw
        simp [choose, Sem.run, Question.forced]
    obtain ⟨cap, hcap, hch⟩ := hchoose
    have hdrew : ∀ b o, w.drew.cell? ⟨b, o, none⟩ = w.cell? ⟨b, o, none⟩ := fun _ _ => rfl
    refine ⟨cap, (Builtin.zeroCells z.cells (cap - (sLen + n))).toList, hcap, by simp [Builtin.zeroCells, hzs], ?_, hc⟩
    simp only [hc, if_false, Sem.run_bind, hti, Result.andThen_ok, Sem.run_ite]
    rw [if_neg (by simpa using h63)]
    rw [if_neg hbig]
    simp only [Sem.run_pure, Result.andThen_ok, hch w rfl, run_askRoom, hl0 w.drew hdrew, Bool.not_false, if_true, hl w.drew hdrew, hzr, newRow, Sem.run_bind, run_newObj]
    have hcells : l0.toArray ++ l.toArray ++ Builtin.zeroCells z.cells (cap - (sLen + n)) = (l0 ++ l ++ (Builtin.zeroCells z.cells (cap - (sLen + n))).toList).toArray := by
      apply Array.ext'; simp
    rw [hcells]
    rfl

theorem heap_new (w : World) (o : Obj) : (w.alloc o).heap[w.heap.size]? = some o := by
  show (w.heap.push o)[w.heap.size]? = some o
  simp

/-- A new row of no element, without a block: a nil slice. -/
def ghostC (c : Cfg) (t : Ty) : Cfg :=
  { c with bl := fun q => if q = c.st.length then none else c.bl q, st := c.st ++ [.vec t 0 []] }

theorem ghost_rel {w0 : Base} {c : Cfg} (hr : Rel w0 c) {t : Ty} (ht : 0 < t.size) : Rel w0 (ghostC c t) ∧ Ext c (ghostC c t) := by
  have hblr : ∀ r, r < c.st.length → (ghostC c t).bl r = c.bl r := fun r h => by simp only [ghostC]; rw [if_neg (by omega)]
  have hx : Ext c (ghostC c t) := {
    size := Nat.le_refl _
    sub := fun _ _ h => h
    cells := fun _ _ _ => rfl
    len := by simp [ghostC]
    keep := fun r ob' hrl h => by
      simp only [ghostC] at h
      rw [List.getElem?_append_left hrl] at h
      cases ob' with
      | dead => trivial
      | cells cs => exact ⟨⟨cs, h⟩, hblr r hrl⟩
      | pool m => exact ⟨m, h⟩
      | vec t f xs => exact ⟨f, xs, h, rfl, hblr r hrl, fun _ _ _ h => h⟩ }
  refine ⟨?_, hx⟩
  have hlive : ∀ r b, live (ghostC c t).st r → (ghostC c t).bl r = some b → live c.st r ∧ c.bl r = some b := by
    intro r b h hb
    have h1 := live_lt h
    simp only [ghostC, List.length_append, List.length_singleton] at h1
    rcases Nat.lt_or_ge r c.st.length with g | g
    · rw [hblr r g] at hb
      refine ⟨?_, hb⟩
      unfold live at h ⊢
      simp only [ghostC] at h
      rw [List.getElem?_append_left g] at h
      exact h
    · obtain rfl : r = c.st.length := by omega
      simp [ghostC] at hb
  exact {
    below := hr.below
    inj := fun r r' b h h' hb hb' => hr.inj r r' b (hlive r b h hb).1 (hlive r' b h' hb').1 (hlive r b h hb).2 (hlive r' b h' hb').2
    fresh := fun r b h hb => hr.fresh r b (hlive r b h hb).1 (hlive r b h hb).2
    bound := hr.bound
    newA := hr.newA
    obj := fun r ob' h => by
      rcases get_push h with ⟨g, h1⟩ | ⟨rfl, rfl⟩
      · exact OkOb.keep hx (hblr r g) (fun _ _ => rfl) (fun _ _ _ h => h) (hr.obj r _ h1)
      · exact ⟨ht, Nat.le_refl _, .inl ⟨by simp [ghostC], rfl⟩⟩
    pl := PoolOk.keep hr.pl (fun r m h => by
        rcases get_push h with ⟨_, h1⟩ | ⟨_, h1⟩
        · exact h1
        · cases h1) (fun r b h hb => .inl ⟨r, (hlive r b h hb).1, (hlive r b h hb).2⟩) (fun _ _ h => .inl h) (fun _ _ _ _ => rfl) }

def killO : V → List Ob → List Ob
  | .vec r, st => st.set r .dead
  | _, st => st

/-- The target of an append: its elements, and how many of them are laid open. -/
def atarget (st : List Ob) (t : Ty) : V → Option (List t.den × Nat)
  | .vec r => match st[r]? with
    | some (.vec τ f ys) => if h : Ty.eqb τ t = true then some (Ty.eqb_eq h ▸ ys, f) else none
    | _ => none
  | .x (.slice none 0 0) => some ([], 0)
  | _ => none

theorem append_sound {P : Program} {w0 : Base} {c : Cfg} (hr : Rel w0 c) {t : Ty} {sv xv : V} {xs ys : List t.den} {f : Nat} {su xu : Value} {sT xT e : TypeId} {ts : Array TypeId} {ty : TypeId}
    (hsv : RelV c sv su) (hxv : RelV c xv xu) (htgt : atarget c.st t sv = some (xs, f)) (hsrc : arows c.st t xv = some ys)
    (ht0 : ts[0]? = some sT) (ht1 : ts[1]? = some xT) (hs : P.underlying sT = some (.slice e)) (hx : sliceArg P xT = true) (hok : elemOk P e t = true) (hfit : fits (xs.length + ys.length)) :
    ∃ u c', (Builtin.append_ ts ty #[su, xu]).run P c.w = .ok u c'.w ∧ Rel w0 c' ∧ Ext c c' ∧ c'.st = killO sv c.st ++ [.vec t f (xs ++ ys)] ∧ RelV c' (.vec c.st.length) u := by
  obtain ⟨i, z, hi, hsz, hpos, hb1, hb2, hz, hzs⟩ := elemOk_sound hok
  obtain ⟨_, hlen, l, hll, hrun, hrows⟩ := arows_sound (P := P) hr hsrc hxv
  -- the target
  have htg : ∃ base sCap l0, su = .slice base xs.length sCap ∧ l0.length = xs.length * t.size ∧
      (∀ w' : World, (∀ b o, w'.cell? ⟨b, o, none⟩ = c.w.cell? ⟨b, o, none⟩) → (Builtin.firstCells t.size xs.length (.slice base xs.length sCap)).run P w' = .ok l0.toArray w') ∧ RowsR (RoV c.w c.A t) t.size xs l0 ∧ f ≤ xs.length ∧
      ((base = none ∧ sCap = 0) ∨ ∃ r b ce e', sv = .vec r ∧ base = some ⟨b, 0, none⟩ ∧ c.st[r]? = some (.vec t f xs) ∧ c.bl r = some b ∧ c.w.heap[b]? = some (.cells ce e' (0, 0)) ∧ ce.size = sCap * t.size ∧ xs.length ≤ sCap ∧
        l0 = ce.toList.take (xs.length * t.size) ∧ ∀ o, f * t.size ≤ o → ¬ c.A b o) := by
    unfold atarget at htgt
    split at htgt
    · next r =>
      split at htgt
      · next τ f' zs hst =>
        split at htgt
        · next he =>
          obtain rfl := Ty.eqb_eq he
          have h' : some (zs, f') = some (xs, f) := htgt
          cases h'
          simp only [RelV, hst] at hsv
          obtain ⟨hp, hf, ⟨h1, rfl⟩ | ⟨b, ce, e', cap, h1, h2, h3, h4, h5, h6⟩⟩ := hr.obj r _ hst
          · rcases hsv with ⟨_, rfl⟩ | ⟨b, cap, hb, _⟩
            · exact ⟨none, 0, [], rfl, by simp, fun _ _ => rfl, fun i y hy => by simp at hy, hf, .inl ⟨rfl, rfl⟩⟩
            · rw [h1] at hb; cases hb
          · rcases hsv with ⟨hb, _⟩ | ⟨b', cap', hb, rfl, hrows'⟩
            · rw [h1] at hb; cases hb
            · rw [h1] at hb; cases hb
              have hcap : cap' = cap := by
                obtain ⟨ce', e'', fz, g1, g2⟩ := hrows'
                rw [h2] at g1; cases g1
                exact Nat.eq_of_mul_eq_mul_right hp (by omega)
              subst hcap
              have hce : ce.toList.length = cap' * τ.size := by simpa using h3
              have hle : zs.length * τ.size ≤ ce.toList.length := by rw [hce]; exact Nat.mul_le_mul_right _ h4
              refine ⟨some ⟨b, 0, none⟩, cap', ce.toList.take (zs.length * τ.size), rfl, by rw [List.length_take]; omega, ?_, RowsR.take h5 hle, hf, .inr ⟨r, b, ce, e', rfl, rfl, hst, h1, h2, h3, h4, rfl, h6⟩⟩
              intro w' hw'
              refine firstCells_cells w' b 0 _ _ _ _ _ (by rw [List.length_take]; omega) fun j u hj => ?_
              rw [hw']
              rw [List.getElem?_take] at hj
              split at hj
              · rw [Nat.zero_add, cell_of_row _ _ _ _ _ _ h2]; simpa using hj
              · cases hj
        · cases htgt
      · cases htgt
    · cases htgt
      simp only [RelV] at hsv
      subst hsv
      exact ⟨none, 0, [], rfl, by simp, fun _ _ => rfl, fun i y hy => by simp at hy, Nat.le_refl _, .inl ⟨rfl, rfl⟩⟩
    · cases htgt
  obtain ⟨base, sCap, l0, rfl, hl0l, hrun0, hrows0, hfle, hcase⟩ := htg
  -- the row's own state behind the target's end
  have hkill : Rel w0 { c with st := killO sv c.st } ∧ Ext c { c with st := killO sv c.st } := by
    cases sv with
    | vec r => exact kill_rel hr r
    | _ => exact ⟨hr, Ext.refl c⟩
  have hklen : (killO sv c.st).length = c.st.length := by cases sv <;> simp [killO]
  rcases run_append (P := P) (w := c.w) (ts := ts) (ty := ty) (us := #[.slice base xs.length sCap, xu]) ht0 ht1 rfl rfl hs hx hok hlen hfit hrun hrun0 with ⟨hle, hin⟩ | ⟨cap, rest, hcap, hrl, hgrow, _⟩
  · -- in place
    rcases hcase with ⟨rfl, rfl⟩ | ⟨r, b, ce, e', rfl, rfl, hst, hbl, hheap, hcs, hlc, hl0e, hA⟩
    · have hx0 : xs.length = 0 := by omega
      have hy0 : ys.length = 0 := by omega
      have ex : xs = [] := List.length_eq_zero_iff.1 hx0
      have ey : ys = [] := List.length_eq_zero_iff.1 hy0
      subst ex; subst ey
      obtain ⟨h1, h2⟩ := ghost_rel (t := t) hkill.1 hpos
      have hf0 : f = 0 := by simpa using hfle
      subst hf0
      refine ⟨_, ghostC { c with st := killO sv c.st } t, hin, h1, hkill.2.trans h2, by simp [ghostC], ?_⟩
      simp only [RelV, ghostC]
      rw [List.getElem?_append_right (by simp [hklen])]
      simp [hklen]
    · have hl1 := hkill.1
      have hadd : (⟨b, 0, none⟩ : Addr).add (xs.length * t.size) = ⟨b, xs.length * t.size, none⟩ := by rw [add_addr, Nat.zero_add]
      have hmul : (xs.length + ys.length) * t.size ≤ sCap * t.size := Nat.mul_le_mul_right _ hle
      rw [Nat.add_mul] at hmul
      have hst' := run_storeCells_at (P := P) b (xs.length * t.size) e' l 0 ce c.w hheap (by omega) (RowsR.one hrows hll hpos)
      simp only [Nat.add_zero] at hst'
      simp only [hadd, hst', Result.andThen_ok] at hin
      have hcl : ce.toList.length = sCap * t.size := by simpa using hcs
      have hfree : ∀ q, live (c.st.set r .dead) q → c.bl q ≠ some b := by
        intro q hq hb
        have hq' : q ≠ r := by
          rintro rfl
          unfold live at hq
          rw [List.getElem?_set] at hq
          simp at hq
          split at hq <;> simp_all
        have hq2 : live c.st q := by
          unfold live at hq ⊢
          rw [List.getElem?_set_ne (fun e => hq' e.symm)] at hq
          exact hq
        exact hq' (hr.inj q r b hq2 (live_of hst (by simp)) hb hbl)
      have hA' : ∀ o, c.A b o → (ce.toList.take (xs.length * t.size) ++ l ++ ce.toList.drop (xs.length * t.size + l.length)).toArray[o]? = ce[o]? := by
        intro o ho
        have hof : o < f * t.size := by
          rcases Nat.lt_or_ge o (f * t.size) with g | g
          · exact g
          · exact absurd ho (hA o g)
        have hof2 : f * t.size ≤ xs.length * t.size := Nat.mul_le_mul_right _ hfle
        rw [List.getElem?_toArray, List.append_assoc, List.getElem?_append_left (by rw [List.length_take]; omega), List.getElem?_take, if_pos (by omega)]
        simp
      have hrowsAll := RowsR.append (l3 := ce.toList.drop (xs.length * t.size + l.length)) hrows0 hl0l hrows hll
      rw [hl0e] at hrowsAll
      obtain ⟨h1, h2⟩ := adopt_rel (ob := .vec t f (xs ++ ys)) hl1 (hr.fresh r b (live_of hst (by simp)) hbl) hfree hheap hA'
        ⟨hpos, by simp; omega, .inr ⟨b, _, e', sCap, by simp [adoptC], setRow_heap c.w b ce _ e' _ hheap, by simp [hll]; rw [Nat.min_eq_left (by omega)]; omega, by simpa using hle, fun i y hy => by
          have := hrowsAll i y hy
          refine RoV.ext (fun _ _ h => h) (fun b' o ho => ?_) this
          show (c.w.setRow b _).cell? _ = _
          by_cases hbb : b' = b
          · subst hbb
            rw [cell_of_row _ _ _ _ _ _ hheap, cell_of_row _ _ _ _ _ _ (setRow_heap c.w b' ce _ e' _ hheap)]
            exact hA' o ho
          · exact World.cell?_of_block (w := c.w) (setRow_other c.w b b' _ hbb), fun o ho => hA o ho⟩⟩
        (fun q m row hq hm => by
          have hq0 : c.st[q]? = some (Ob.pool m) := by
            have hq' : (c.st.set r .dead)[q]? = some (Ob.pool m) := hq
            rw [List.getElem?_set] at hq'
            split at hq'
            · split at hq' <;> cases hq'
            · exact hq'
          exact ((hr.pl.2 q m hq0).2 b row hm).2.1 r (live_of hst (by simp)) hbl)
      refine ⟨_, _, hin, h1, hkill.2.trans h2, rfl, ?_⟩
      simp only [RelV, adoptC]
      rw [List.getElem?_append_right (by simp [hklen])]
      simp only [killO, List.length_set, Nat.sub_self, List.getElem?_cons_zero]
      refine .inr ⟨b, sCap, by simp, by simp, _, e', _, setRow_heap c.w b ce _ e' _ hheap, by simp [hll]; rw [Nat.min_eq_left (by omega)]; omega⟩
  · -- in a new block
    obtain ⟨hd1, hd2⟩ := drew_rel hkill.1
    have hrowsAll := RowsR.append (l3 := rest) hrows0 hl0l hrows hll
    have hmul : (xs.length + ys.length) * t.size ≤ cap * t.size := Nat.mul_le_mul_right _ hcap
    have hsize : (l0 ++ l ++ rest).length = cap * t.size := by
      simp only [List.length_append, hl0l, hll, hrl]
      rw [Nat.sub_mul, Nat.add_mul]
      rw [Nat.add_mul] at hmul
      omega
    obtain ⟨h1, h2⟩ := push_rel (ce := (l0 ++ l ++ rest).toArray) (e := e) (ob := .vec t f (xs ++ ys)) hd1
      ⟨hpos, by simp; omega, .inr ⟨c.w.heap.size, _, e, cap, by simp [pushC], heap_new c.w.drew _, by simpa using hsize, by simpa using hcap, fun i y hy => by
        have := hrowsAll i y hy
        refine RoV.ext (fun _ _ h => h) (fun b' o ho => ?_) this
        have := hr.bound b' o ho
        show (c.w.drew.alloc _).cell? _ = _
        apply World.cell?_alloc_lt; exact this, fun o ho hn => by have := hr.bound _ _ hn; omega⟩⟩
    refine ⟨_, _, hgrow, h1, hkill.2.trans (hd2.trans h2), rfl, ?_⟩
    simp only [RelV, pushC]
    rw [List.getElem?_append_right (by simp [hklen])]
    simp only [hklen, Nat.sub_self, List.getElem?_cons_zero]
    refine .inr ⟨c.w.heap.size, cap, by simp, by simp, _, e, _, heap_new c.w.drew _, by simpa using hsize⟩

end Eng
end Go.Proofs.YtkpplfghhciacaaDoor

/-
  Steps of memory: a new object, a store into an object, a row laid open for reading, an append. Conditions: none.
-/
import Derived.Test.YtkpplfghhciacaaDoorEngE
set_option linter.unusedVariables false
set_option linter.unusedSimpArgs false
namespace Go.Proofs.YtkpplfghhciacaaDoor
namespace Eng
open Go.RowKit

theorem Ext.refl (c : Cfg) : Ext c c where
  size := Nat.le_refl _
  sub := fun _ _ h => h
  cells := fun _ _ _ => rfl
  len := Nat.le_refl _
  keep := fun r ob _ h => by
    cases ob with
    | dead => trivial
    | cells cs => exact ⟨⟨cs, h⟩, rfl⟩
    | vec t f xs => exact ⟨f, xs, h, rfl, rfl, fun _ _ _ h => h⟩
    | pool m => exact ⟨m, h⟩

theorem Ext.trans {a b c : Cfg} (h : Ext a b) (k : Ext b c) : Ext a c where
  size := Nat.le_trans h.size k.size
  sub := fun x o g => k.sub x o (h.sub x o g)
  cells := fun x o g => (k.cells x o (h.sub x o g)).trans (h.cells x o g)
  len := Nat.le_trans h.len k.len
  keep := fun r ob hr hob => by
    have hk := k.keep r ob (Nat.lt_of_lt_of_le hr h.len) hob
    cases ob with
    | dead => trivial
    | cells cs =>
      obtain ⟨⟨cs1, h1⟩, h2⟩ := hk
      obtain ⟨⟨cs2, h3⟩, h4⟩ := h.keep r _ hr h1
      exact ⟨⟨cs2, h3⟩, h2.trans h4⟩
    | vec t f xs =>
      obtain ⟨f1, xs1, h1, h2, h3, h4⟩ := hk
      obtain ⟨f2, xs2, h5, h6, h7, h8⟩ := h.keep r _ hr h1
      refine ⟨f2, xs2, h5, h2.trans h6, h3.trans h7, fun bb n hb hrows => h4 bb n (by rw [h7]; exact hb) (h8 bb n hb hrows)⟩
    | pool m =>
      obtain ⟨m1, h1⟩ := hk
      exact h.keep r _ hr h1

theorem OkOb.keep {c c' : Cfg} (hx : Ext c c') {r : Nat} {ob : Ob} (hbl : c'.bl r = c.bl r) (hheap : ∀ b, c.bl r = some b → c'.w.heap[b]? = c.w.heap[b]?)
    (hA : ∀ b o, c.bl r = some b → c'.A b o → c.A b o) (h : OkOb c r ob) : OkOb c' r ob := by
  cases ob with
  | dead => trivial
  | cells cs =>
    obtain ⟨b, ce, e, h1, h2, h3, h4⟩ := h
    exact ⟨b, ce, e, hbl.trans h1, (hheap b h1).trans h2, RelVs.ext hx _ _ h3, fun o ho => h4 o (hA b o h1 ho)⟩
  | vec t f xs =>
    obtain ⟨h0, hf, h | ⟨b, ce, e, cap, h1, h2, h3, h4, h5, h6⟩⟩ := h
    · exact ⟨h0, hf, .inl ⟨hbl.trans h.1, h.2⟩⟩
    · exact ⟨h0, hf, .inr ⟨b, ce, e, cap, hbl.trans h1, (hheap b h1).trans h2, h3, h4, fun i y hy => RoV.ext hx.sub hx.cells (h5 i y hy), fun o ho hn => h6 o ho (hA b o h1 hn)⟩⟩
  | pool m => exact hbl.trans h

theorem Kept.setRow {w0 : Base} {w : World} (h : Kept w0 w) {g : Nat} (hg : w0.may g) (cs : Array Value) : Kept w0 (w.setRow g cs) :=
  ⟨h.b0.trans ⟨rfl, rfl, rfl, by simp, fun k hk => by omega⟩, fun k hk => (setRow_other w g k cs (fun e => hk (e ▸ hg))).trans (h.block k hk)⟩

theorem live_of {st : List Ob} {r : Nat} {ob : Ob} (h : st[r]? = some ob) (hd : ob ≠ .dead) : live st r := by
  unfold live
  rw [h]
  cases ob with
  | dead => exact absurd rfl hd
  | _ => trivial

theorem live_lt {st : List Ob} {r : Nat} (h : live st r) : r < st.length := by
  unfold live at h
  rcases Nat.lt_or_ge r st.length with g | g
  · exact g
  · rw [List.getElem?_eq_none g] at h; exact h.elim

theorem bl_lt {w0 : Base} {c : Cfg} (hr : Rel w0 c) {r b : Nat} (hl : live c.st r) (hb : c.bl r = some b) : b < c.w.heap.size := by
  have hlt := live_lt hl
  have ho := hr.obj r _ (List.getElem?_eq_getElem hlt)
  unfold live at hl
  rw [List.getElem?_eq_getElem hlt] at hl
  have key : ∀ (b' : Nat) x, c.w.heap[b']? = some x → b' < c.w.heap.size := fun b' x h => (Array.getElem?_eq_some_iff.1 h).1
  cases hob : c.st[r] with
  | dead => rw [hob] at hl; exact hl.elim
  | cells cs =>
    rw [hob] at ho
    obtain ⟨b', ce, e, h1, h2, _⟩ := ho
    rw [hb] at h1; cases h1
    exact key _ _ h2
  | vec t f xs =>
    rw [hob] at ho
    obtain ⟨_, _, ⟨h, _⟩ | ⟨b', ce, e, cap, h1, h2, _⟩⟩ := ho
    · rw [hb] at h; cases h
    · rw [hb] at h1; cases h1
      exact key _ _ h2
  | pool m =>
    rw [hob] at ho
    have h : c.bl r = none := ho
    rw [hb] at h; cases h

/-- A new object in a new block. -/
def pushC (c : Cfg) (ce : Array Value) (e : TypeId) (ob : Ob) : Cfg :=
  { c with w := c.w.alloc (.cells ce e), bl := fun r => if r = c.st.length then some c.w.heap.size else c.bl r, st := c.st ++ [ob] }

theorem get_push {st : List Ob} {ob ob' : Ob} {r : Nat} (h : (st ++ [ob])[r]? = some ob') : (r < st.length ∧ st[r]? = some ob') ∨ (r = st.length ∧ ob' = ob) := by
  rcases Nat.lt_trichotomy r st.length with g | g | g
  · rw [List.getElem?_append_left g] at h; exact .inl ⟨g, h⟩
  · subst g
    rw [List.getElem?_append_right (Nat.le_refl _)] at h
    simp at h
    exact .inr ⟨rfl, h.symm⟩
  · rw [List.getElem?_append_right (by omega), List.getElem?_eq_none (by simp; omega)] at h
    cases h

theorem push_ext (c : Cfg) (ce : Array Value) (e : TypeId) (ob : Ob) (hA : ∀ b o, c.A b o → b < c.w.heap.size) (hbl : ∀ r b, live c.st r → c.bl r = some b → b < c.w.heap.size) : Ext c (pushC c ce e ob) where
  size := by simp [pushC]
  sub := fun _ _ h => h
  cells := fun b o h => by
    have := hA b o h
    simp only [pushC]
    apply World.cell?_alloc_lt; exact this
  len := by simp [pushC]
  keep := fun r ob' hr h => by
    simp only [pushC] at h
    rw [List.getElem?_append_left hr] at h
    have hb : (pushC c ce e ob).bl r = c.bl r := by simp only [pushC]; rw [if_neg (by omega)]
    cases ob' with
    | dead => trivial
    | cells cs => exact ⟨⟨cs, h⟩, hb⟩
    | pool m => exact ⟨m, h⟩
    | vec t f xs =>
      refine ⟨f, xs, h, rfl, hb, fun b n hbb hrows => ?_⟩
      obtain ⟨ce', e', fz, h1, h2⟩ := hrows
      have hlt := hbl r b (live_of h (by simp)) hbb
      exact ⟨ce', e', fz, by simp only [pushC]; rw [Below.heap_alloc _ _ _ hlt]; exact h1, h2⟩

theorem push_rel {w0 : Base} {c : Cfg} (hr : Rel w0 c) (ce : Array Value) (e : TypeId) (ob : Ob)
    (hob : OkOb (pushC c ce e ob) c.st.length ob) (hnp : ∀ m, ob ≠ Ob.pool m := by intro m h; cases h) : Rel w0 (pushC c ce e ob) ∧ Ext c (pushC c ce e ob) := by
  have hx := push_ext c ce e ob hr.bound (fun r b h1 h2 => bl_lt hr h1 h2)
  refine ⟨?_, hx⟩
  have hlt : w0.w.heap.size ≤ c.w.heap.size := hr.below.size
  have hlive : ∀ r, live (pushC c ce e ob).st r → (r < c.st.length ∧ live c.st r ∧ (pushC c ce e ob).bl r = c.bl r) ∨ (r = c.st.length ∧ (pushC c ce e ob).bl r = some c.w.heap.size) := by
    intro r h
    have h1 := live_lt h
    simp only [pushC, List.length_append, List.length_singleton] at h1
    rcases Nat.lt_or_ge r c.st.length with g | g
    · refine .inl ⟨g, ?_, ?_⟩
      · unfold live at h ⊢
        simp only [pushC] at h
        rw [List.getElem?_append_left g] at h
        exact h
      · simp only [pushC]; rw [if_neg (by omega)]
    · obtain rfl : r = c.st.length := by omega
      exact .inr ⟨rfl, by simp [pushC]⟩
  exact {
    below := hr.below.alloc hlt _
    inj := fun r r' b h h' hb hb' => by
      rcases hlive r h with ⟨g, g1, g2⟩ | ⟨g, g2⟩ <;> rcases hlive r' h' with ⟨k, k1, k2⟩ | ⟨k, k2⟩
      · exact hr.inj r r' b g1 k1 (g2 ▸ hb) (k2 ▸ hb')
      · have := bl_lt hr g1 (g2 ▸ hb)
        rw [k2] at hb'; cases hb'; omega
      · have := bl_lt hr k1 (k2 ▸ hb')
        rw [g2] at hb; cases hb; omega
      · omega
    fresh := fun r b h hb => by
      rcases hlive r h with ⟨g, g1, g2⟩ | ⟨g, g2⟩
      · exact hr.fresh r b g1 (g2 ▸ hb)
      · rw [g2] at hb; cases hb; exact .inl hlt
    bound := fun b o h => by
      have := hr.bound b o h
      simp only [pushC, World.size_alloc]; omega
    newA := hr.newA
    obj := fun r ob' h => by
      rcases get_push h with ⟨g, h1⟩ | ⟨rfl, rfl⟩
      · have hb : (pushC c ce e ob).bl r = c.bl r := by simp only [pushC]; rw [if_neg (by omega)]
        cases ob' with
        | dead => trivial
        | _ =>
          refine OkOb.keep hx hb (fun b hbb => ?_) (fun _ _ _ h => h) (hr.obj r _ h1)
          exact Below.heap_alloc _ _ _ (bl_lt hr (live_of h1 (by simp)) hbb)
      · exact hob
    pl := PoolOk.keep hr.pl (fun r m h => by
        rcases get_push h with ⟨_, h1⟩ | ⟨_, h1⟩
        · exact h1
        · exact absurd h1.symm (hnp m)) (fun r b h hb => by
        rcases hlive r h with ⟨g, g1, g2⟩ | ⟨g, g2⟩
        · exact .inl ⟨r, g1, g2 ▸ hb⟩
        · rw [g2] at hb; cases hb; exact .inr (.inl (Nat.le_refl _))) (fun _ _ h => .inl h) (fun b hb _ _ => Below.heap_alloc _ _ _ hb) }

/-- Another content of an object, in its block. -/
def putC (c : Cfg) (r b : Nat) (ce : Array Value) (ob : Ob) : Cfg :=
  { c with w := c.w.setRow b ce, st := c.st.set r ob }

theorem put_rel {w0 : Base} {c : Cfg} (hr : Rel w0 c) {r b : Nat} {ce0 ce : Array Value} {e : TypeId} {ob0 ob : Ob} (h0 : c.st[r]? = some ob0) (hd : ob0 ≠ .dead) (hb : c.bl r = some b)
    (hheap : c.w.heap[b]? = some (.cells ce0 e (0, 0))) (hA : ∀ o, c.A b o → ce[o]? = ce0[o]?) (hsame : SameOb c (putC c r b ce ob) r ob)
    (hob : OkOb (putC c r b ce ob) r ob) (hnp : ∀ m, ob ≠ Ob.pool m := by intro m h; cases h) : Rel w0 (putC c r b ce ob) ∧ Ext c (putC c r b ce ob) := by
  have hl := live_of h0 hd
  have hrl : r < c.st.length := live_lt hl
  have hcell : ∀ b' o, c.A b' o → (c.w.setRow b ce).cell? ⟨b', o, none⟩ = c.w.cell? ⟨b', o, none⟩ := fun b' o h => by
    by_cases hbb : b' = b
    · subst hbb
      rw [cell_of_row _ _ _ _ _ _ hheap, cell_of_row _ _ _ _ _ _ (setRow_heap c.w b' ce0 ce e _ hheap)]
      exact hA o h
    · exact World.cell?_of_block (w := c.w) (setRow_other c.w b b' ce hbb)
  have hother : ∀ r' b', live c.st r' → c.bl r' = some b' → r' ≠ r → b' ≠ b := fun r' b' h1 h2 h3 h4 => h3 (hr.inj r' r b h1 hl (h4 ▸ h2) hb)
  have hget : ∀ r' ob', (c.st.set r ob)[r']? = some ob' → (r' ≠ r ∧ c.st[r']? = some ob') ∨ (r' = r ∧ ob' = ob) := fun r' ob' h => by
    rw [List.getElem?_set] at h
    split at h
    · next hrr =>
      subst hrr
      simp only [hrl, if_true, Option.some.injEq] at h
      exact .inr ⟨rfl, h.symm⟩
    · next hrr => exact .inl ⟨fun e => hrr e.symm, h⟩
  have hx : Ext c (putC c r b ce ob) := {
    size := by simp [putC]
    sub := fun _ _ h => h
    cells := hcell
    len := by simp [putC]
    keep := fun r' ob' hr' h => by
      rcases hget r' ob' h with ⟨hne, h1⟩ | ⟨rfl, rfl⟩
      · cases ob' with
        | dead => trivial
        | cells cs => exact ⟨⟨cs, h1⟩, rfl⟩
        | pool m => exact ⟨m, h1⟩
        | vec t f xs =>
          refine ⟨f, xs, h1, rfl, rfl, fun b' n hbb hrows => ?_⟩
          obtain ⟨ce', e', fz, h2, h3⟩ := hrows
          have hne' := hother r' b' (live_of h1 (by simp)) hbb hne
          exact ⟨ce', e', fz, by simp only [putC]; rw [setRow_other _ _ _ _ hne']; exact h2, h3⟩
      · exact hsame }
  refine ⟨?_, hx⟩
  have hlive : ∀ r', live (putC c r b ce ob).st r' → live c.st r' := fun r' h => by
    by_cases hrr : r' = r
    · rw [hrr]; exact hl
    · unfold live at h ⊢
      simp only [putC] at h
      rw [List.getElem?_set_ne (fun e => hrr e.symm)] at h
      exact h
  exact {
    below := Kept.setRow hr.below (hr.fresh r b hl hb) _
    inj := fun r1 r2 b' h h' hb1 hb2 => hr.inj r1 r2 b' (hlive _ h) (hlive _ h') hb1 hb2
    fresh := fun r1 b' h hb1 => hr.fresh r1 b' (hlive _ h) hb1
    bound := fun b' o h => by simp only [putC, setRow_size]; exact hr.bound b' o h
    newA := hr.newA
    obj := fun r' ob' h => by
      rcases hget r' ob' h with ⟨hne, h1⟩ | ⟨rfl, rfl⟩
      · cases ob' with
        | dead => trivial
        | _ =>
          refine OkOb.keep hx rfl (fun b' hbb => ?_) (fun _ _ _ h => h) (hr.obj r' _ h1)
          exact setRow_other _ _ _ _ (hother r' b' (live_of h1 (by simp)) hbb hne)
      · exact hob
    pl := PoolOk.keep hr.pl (fun r' m h => by
        rcases hget r' _ h with ⟨_, h1⟩ | ⟨_, h1⟩
        · exact h1
        · exact absurd h1.symm (hnp m)) (fun r' b' h hb' => .inl ⟨r', hlive r' h, hb'⟩) (fun _ _ h => .inl h)
        (fun b' _ hno _ => setRow_other _ _ _ _ (fun e => hno ⟨r, hl, e ▸ hb⟩)) }

/-- An object laid to rest. -/
def killC (c : Cfg) (r : Nat) : Cfg := { c with st := c.st.set r .dead }

theorem kill_rel {w0 : Base} {c : Cfg} (hr : Rel w0 c) (r : Nat) : Rel w0 (killC c r) ∧ Ext c (killC c r) := by
  have hget : ∀ r' ob', (c.st.set r .dead)[r']? = some ob' → ob' = .dead ∨ (r' ≠ r ∧ c.st[r']? = some ob') := fun r' ob' h => by
    rw [List.getElem?_set] at h
    split at h
    · split at h
      · simp only [Option.some.injEq] at h; exact .inl h.symm
      · cases h
    · next hrr => exact .inr ⟨fun e => hrr e.symm, h⟩
  have hx : Ext c (killC c r) := {
    size := Nat.le_refl _
    sub := fun _ _ h => h
    cells := fun _ _ _ => rfl
    len := by simp [killC]
    keep := fun r' ob' hr' h => by
      rcases hget r' ob' h with rfl | ⟨hne, h1⟩
      · trivial
      · cases ob' with
        | dead => trivial
        | cells cs => exact ⟨⟨cs, h1⟩, rfl⟩
        | pool m => exact ⟨m, h1⟩
        | vec t f xs => exact ⟨f, xs, h1, rfl, rfl, fun _ _ _ h => h⟩ }
  refine ⟨?_, hx⟩
  have hlive : ∀ r', live (killC c r).st r' → live c.st r' := fun r' h => by
    have hlt := live_lt h
    unfold live at h ⊢
    have h1 : (killC c r).st[r']? = some ((killC c r).st[r']) := List.getElem?_eq_getElem hlt
    rcases hget r' _ h1 with h2 | ⟨_, h2⟩
    · rw [h1, h2] at h; exact h.elim
    · rw [h1] at h; rw [h2]; exact h
  exact {
    below := hr.below
    inj := fun r1 r2 b' h h' hb1 hb2 => hr.inj r1 r2 b' (hlive _ h) (hlive _ h') hb1 hb2
    fresh := fun r1 b' h hb1 => hr.fresh r1 b' (hlive _ h) hb1
    bound := hr.bound
    newA := hr.newA
    obj := fun r' ob' h => by
      rcases hget r' ob' h with rfl | ⟨hne, h1⟩
      · trivial
      · exact OkOb.keep hx rfl (fun _ _ => rfl) (fun _ _ _ h => h) (hr.obj r' _ h1)
    pl := PoolOk.keep hr.pl (fun r' m h => by
        rcases hget r' _ h with h1 | ⟨_, h1⟩
        · cases h1
        · exact h1) (fun r' b' h hb' => .inl ⟨r', hlive r' h, hb'⟩) (fun _ _ h => .inl h) (fun _ _ _ _ => rfl) }

/-- A row whose elements are laid open for reading: they are not written any more. -/
def frzC (c : Cfg) (r : Nat) (t : Ty) (xs : List t.den) : Cfg :=
  { c with st := c.st.set r (.vec t xs.length xs), A := fun b o => c.A b o ∨ (c.bl r = some b ∧ o < xs.length * t.size) }

theorem frz_rel {w0 : Base} {c : Cfg} (hr : Rel w0 c) {r : Nat} {t : Ty} {f : Nat} {xs : List t.den} (h0 : c.st[r]? = some (.vec t f xs)) :
    Rel w0 (frzC c r t xs) ∧ Ext c (frzC c r t xs) ∧ ∀ u, RelV c (.vec r) u → RelV (frzC c r t xs) (.ro t xs) u := by
  have hl := live_of h0 (by simp)
  have hrl := live_lt hl
  have hget : ∀ r' ob', (c.st.set r (Ob.vec t xs.length xs))[r']? = some ob' → (r' ≠ r ∧ c.st[r']? = some ob') ∨ (r' = r ∧ ob' = .vec t xs.length xs) := fun r' ob' h => by
    rw [List.getElem?_set] at h
    split at h
    · next hrr =>
      subst hrr
      simp only [hrl, if_true, Option.some.injEq] at h
      exact .inr ⟨rfl, h.symm⟩
    · next hrr => exact .inl ⟨fun e => hrr e.symm, h⟩
  have hx : Ext c (frzC c r t xs) := {
    size := Nat.le_refl _
    sub := fun _ _ h => .inl h
    cells := fun _ _ _ => rfl
    len := by simp [frzC]
    keep := fun r' ob' hr' h => by
      rcases hget r' ob' h with ⟨hne, h1⟩ | ⟨rfl, rfl⟩
      · cases ob' with
        | dead => trivial
        | cells cs => exact ⟨⟨cs, h1⟩, rfl⟩
        | pool m => exact ⟨m, h1⟩
        | vec t f xs => exact ⟨f, xs, h1, rfl, rfl, fun _ _ _ h => h⟩
      · exact ⟨f, xs, h0, rfl, rfl, fun _ _ _ h => h⟩ }
  have hlive : ∀ r', live (frzC c r t xs).st r' → live c.st r' := fun r' h => by
    by_cases hrr : r' = r
    · rw [hrr]; exact hl
    · unfold live at h ⊢
      simp only [frzC] at h
      rw [List.getElem?_set_ne (fun e => hrr e.symm)] at h
      exact h
  have hrow := hr.obj r _ h0
  refine ⟨?_, hx, ?_⟩
  · exact {
      below := hr.below
      inj := fun r1 r2 b' h h' hb1 hb2 => hr.inj r1 r2 b' (hlive _ h) (hlive _ h') hb1 hb2
      fresh := fun r1 b' h hb1 => hr.fresh r1 b' (hlive _ h) hb1
      bound := fun b o h => by
        rcases h with h | ⟨h, _⟩
        · exact hr.bound b o h
        · exact bl_lt hr hl h
      newA := fun b o h => by
        rcases h with h | ⟨h, _⟩
        · exact hr.newA b o h
        · exact .inr (hr.fresh r b hl h)
      obj := fun r' ob' h => by
        rcases hget r' ob' h with ⟨hne, h1⟩ | ⟨rfl, rfl⟩
        · cases ob' with
          | dead => trivial
          | _ =>
            refine OkOb.keep hx rfl (fun _ _ => rfl) (fun b o hb hA => ?_) (hr.obj r' _ h1)
            rcases hA with hA | ⟨hb', _⟩
            · exact hA
            · exact absurd (hr.inj r' r b (live_of h1 (by simp)) hl hb hb') hne
        · obtain ⟨hp, hf, ⟨h1, h2⟩ | ⟨b, ce, e, cap, h1, h2, h3, h4, h5, h6⟩⟩ := hrow
          · exact ⟨hp, Nat.le_refl _, .inl ⟨h1, h2⟩⟩
          · refine ⟨hp, Nat.le_refl _, .inr ⟨b, ce, e, cap, h1, h2, h3, h4, fun i y hy => RoV.ext hx.sub hx.cells (h5 i y hy), fun o ho hn => ?_⟩⟩
            rcases hn with hn | ⟨_, hn⟩
            · exact h6 o (Nat.le_trans (Nat.mul_le_mul_right _ hf) ho) hn
            · omega
      pl := PoolOk.keep hr.pl (fun r' m h => by
          rcases hget r' _ h with ⟨_, h1⟩ | ⟨_, h1⟩
          · exact h1
          · cases h1) (fun r' b' h hb' => .inl ⟨r', hlive r' h, hb'⟩) (fun b o h => by
          rcases h with h | ⟨h, _⟩
          · exact .inl h
          · exact .inr (.inl ⟨r, hl, h⟩)) (fun _ _ _ _ => rfl) }
  · intro u hu
    simp only [RelV, h0] at hu
    simp only [RelV, RoV, SlV]
    obtain ⟨hp, hf, ⟨h1, rfl⟩ | ⟨b, ce, e, cap, h1, h2, h3, h4, h5, h6⟩⟩ := hrow
    · rcases hu with ⟨_, rfl⟩ | ⟨b, cap, hb, _⟩
      · exact .inl ⟨rfl, rfl⟩
      · rw [h1] at hb; cases hb
    · rcases hu with ⟨hb, _⟩ | ⟨b', cap', hb, rfl, hrows⟩
      · rw [h1] at hb; cases hb
      · rw [h1] at hb; cases hb
        have hcap : cap' = cap := by
          obtain ⟨ce', e', fz, g1, g2⟩ := hrows
          rw [h2] at g1; cases g1
          exact Nat.eq_of_mul_eq_mul_right hp (by omega)
        subst hcap
        refine .inr ⟨b, 0, none, cap', rfl, fun _ => rfl, h4, fun i y hy => ?_⟩
        have hi : i < xs.length := (List.getElem?_eq_some_iff.1 hy).1
        have hmul : (i + 1) * t.size ≤ xs.length * t.size := Nat.mul_le_mul_right _ hi
        have hmul2 : xs.length * t.size ≤ cap' * t.size := Nat.mul_le_mul_right _ h4
        rw [Nat.add_mul, Nat.one_mul] at hmul
        refine ⟨_, ?_, RoV.ext hx.sub hx.cells (h5 i y hy), fun j x hj => ?_⟩
        · simp; omega
        · rw [List.getElem?_take] at hj
          split at hj
          · next hjt =>
            rw [List.getElem?_drop] at hj
            refine ⟨?_, .inr ⟨h1, by omega⟩⟩
            show c.w.cell? _ = _
            rw [cell_of_row _ _ _ _ _ _ h2, Nat.zero_add]
            simpa using hj
          · cases hj

/-- A part of a row, with the row laid open for reading. -/
theorem vw_frz {w0 : Base} {c : Cfg} (hr : Rel w0 c) {r : Nat} {t : Ty} {f : Nat} {xs : List t.den} (h0 : c.st[r]? = some (.vec t f xs)) {lo n : Nat} {u : Value} (hu : RelV c (.vw r lo n) u) :
    RelV (frzC c r t xs) (.ro t ((xs.drop lo).take n)) u := by
  obtain ⟨_, hx, _⟩ := frz_rel hr h0
  have hrow := hr.obj r _ h0
  simp only [RelV, h0] at hu
  simp only [RelV, RoV, SlV]
  obtain ⟨hlo, hu⟩ := hu
  have hlen : ((xs.drop lo).take n).length = n := by simp; omega
  rcases hu with ⟨h1, rfl⟩ | ⟨b, cap, hb, rfl, hcap, hrows⟩ | ⟨rfl, _, a, rfl⟩
  · left
    obtain ⟨_, _, ⟨_, rfl⟩ | ⟨b', ce, ty, cap, hb', _⟩⟩ := hrow
    · exact ⟨rfl, by simp⟩
    · rw [h1] at hb'; cases hb'
  · right
    obtain ⟨hp, hf, ⟨h1, rfl⟩ | ⟨b', ce, e, cap', h1, h2, h3, h4, h5, h6⟩⟩ := hrow
    · rw [h1] at hb; cases hb
    rw [h1] at hb; cases hb
    refine ⟨b, lo * t.size, none, cap, by rw [hlen], fun _ => rfl, by rw [hlen]; exact hcap, fun i y hy => ?_⟩
    have hi : i < n := by
      have := (List.getElem?_eq_some_iff.1 hy).1
      omega
    rw [List.getElem?_take, if_pos hi, List.getElem?_drop] at hy
    have hmul : (lo + i + 1) * t.size ≤ xs.length * t.size := Nat.mul_le_mul_right _ (by omega)
    have hmul2 : xs.length * t.size ≤ cap' * t.size := Nat.mul_le_mul_right _ h4
    rw [Nat.add_mul, Nat.one_mul] at hmul
    have hce : ce.toList.length = cap' * t.size := by simpa using h3
    refine ⟨_, ?_, RoV.ext hx.sub hx.cells (h5 (lo + i) y hy), fun j x hj => ?_⟩
    · rw [List.length_take, List.length_drop]; omega
    · rw [List.getElem?_take] at hj
      split at hj
      · next hjt =>
        rw [List.getElem?_drop] at hj
        have e1 : lo * t.size + i * t.size + j = (lo + i) * t.size + j := by rw [Nat.add_mul]
        rw [e1]
        refine ⟨?_, .inr ⟨h1, by omega⟩⟩
        show c.w.cell? _ = _
        rw [cell_of_row _ _ _ _ _ _ h2]
        simpa using hj
      · cases hj
  · right
    exact ⟨a.block, a.off, a.spot, 0, by simp, by simp, by simp, fun i y hy => by simp at hy⟩

end Eng
end Go.Proofs.YtkpplfghhciacaaDoor

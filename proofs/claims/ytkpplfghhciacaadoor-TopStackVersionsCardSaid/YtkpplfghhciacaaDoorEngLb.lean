/-
  The form of slots and objects where ways meet: coercions, and the objects that are reached under new names. Conditions: none.
-/
import Derived.Test.YtkpplfghhciacaaDoorEngLa
set_option linter.unusedVariables false
set_option linter.unusedSimpArgs false
namespace Go.Proofs.YtkpplfghhciacaaDoor
namespace Eng
open Go.RowKit

abbrev St := List V → List Ob → Prop

/-- Where a result has a slice: none at all is a row of the run's own. -/
inductive Rs where
  | any
  | sl (t : Ty)
  | mv (t : Ty)
  | ro (t : Ty)
  | vw
  | hd
  | agg (l : List Rs)
  | tup (l : List Rs)

mutual
def ownR : Rs → V → List Ob → V × List Ob
  | .sl t, v, st => (match v with
    | .x (.slice none 0 0) => if 0 < t.size then (.vec st.length, st ++ [.vec t 0 []]) else (v, st)
    | .vw r 0 n => (match st[r]? with
      | some (.vec τ 0 xs) => (.vec st.length, st.set r .dead ++ [.vec τ 0 (xs.take n)])
      | _ => (v, st))
    | _ => (v, st))
  | .mv t, v, st => (match v with
    | .x (.slice none 0 0) => if 0 < t.size then (.vec st.length, st ++ [.vec t 0 []]) else (v, st)
    | .vec r => (match st[r]? with
      | some (.vec τ f xs) => (.vec st.length, st.set r .dead ++ [.vec τ f xs])
      | _ => (v, st))
    | .vw r 0 n => (match st[r]? with
      | some (.vec τ 0 xs) => (.vec st.length, st.set r .dead ++ [.vec τ 0 (xs.take n)])
      | _ => (v, st))
    | _ => (v, st))
  | .ro t, v, st => (match v with
    | .x (.slice none 0 0) => (.ro t [], st)
    | .vec r => (match st[r]? with
      | some (.vec τ _ xs) => (.ro τ xs, st.set r (.vec τ xs.length xs))
      | _ => (v, st))
    | .vw r lo n => (match st[r]? with
      | some (.vec τ _ xs) => (.ro τ ((xs.drop lo).take n), st.set r (.vec τ xs.length xs))
      | _ => (v, st))
    | _ => (v, st))
  | .vw, v, st => (match v with
    | .vec r => (match st[r]? with
      | some (.vec _ _ xs) => (.vw r 0 xs.length, st)
      | _ => (v, st))
    | _ => (v, st))
  | .hd, v, st => (match v with
    | .x (.slice none 0 0) => (.hd Hd.nil, st)
    | _ => (v, st))
  | .agg l, v, st => (match v with
    | .agg cs => (match ownRs l cs st with | (cs', st') => (.agg cs', st'))
    | _ => (v, st))
  | .tup l, v, st => (match v with
    | .tup cs => (match ownRs l cs st with | (cs', st') => (.tup cs', st'))
    | _ => (v, st))
  | .any, v, st => (v, st)
def ownRs : List Rs → List V → List Ob → List V × List Ob
  | [], l, st => (l, st)
  | s :: r, l, st => (match l with
    | v :: vs => (match ownR s v st with | (v', st') => (match ownRs r vs st' with | (vs', st'') => (v' :: vs', st'')))
    | [] => ([], st))
end

mutual
theorem ownR_sound {w0 : Base} : ∀ (s : Rs) (v : V) (c : Cfg), Rel w0 c → ∃ c', c'.w = c.w ∧ c'.st = (ownR s v c.st).2 ∧ Rel w0 c' ∧ Ext c c' ∧ ∀ u, RelV c v u → RelV c' (ownR s v c.st).1 u
  | .any, v, c, hr => ⟨c, rfl, by simp only [ownR], hr, Ext.refl c, fun u h => by simpa only [ownR] using h⟩
  | .sl t, v, c, hr => by
    have same : ∃ c', c'.w = c.w ∧ c'.st = c.st ∧ Rel w0 c' ∧ Ext c c' ∧ ∀ u, RelV c v u → RelV c' v u := ⟨c, rfl, rfl, hr, Ext.refl c, fun u h => h⟩
    simp only [ownR]
    split
    · split
      · next ht =>
        obtain ⟨h1, h2⟩ := ghost_rel hr ht
        refine ⟨ghostC c t, rfl, rfl, h1, h2, fun u h => ?_⟩
        simp only [RelV] at h
        simp only [RelV, ghostC]
        rw [List.getElem?_append_right (Nat.le_refl _)]
        simp [h]
      · exact same
    · next r n =>
      split
      · next τ xs hst =>
        obtain ⟨h1, h2, h3⟩ := vw_mv hr hst n
        exact ⟨mvC c r (.vec τ 0 (xs.take n)), rfl, rfl, h1, h2, h3⟩
      · exact same
    · exact same
  | .mv t, v, c, hr => by
    have same : ∃ c', c'.w = c.w ∧ c'.st = c.st ∧ Rel w0 c' ∧ Ext c c' ∧ ∀ u, RelV c v u → RelV c' v u := ⟨c, rfl, rfl, hr, Ext.refl c, fun u h => h⟩
    simp only [ownR]
    split
    · split
      · next ht =>
        obtain ⟨h1, h2⟩ := ghost_rel hr ht
        refine ⟨ghostC c t, rfl, rfl, h1, h2, fun u h => ?_⟩
        simp only [RelV] at h
        simp only [RelV, ghostC]
        rw [List.getElem?_append_right (Nat.le_refl _)]
        simp [h]
      · exact same
    · next r =>
      split
      · next τ f xs hst =>
        obtain ⟨h1, h2, h3⟩ := mv_rel hr hst
        exact ⟨mvC c r (.vec τ f xs), rfl, rfl, h1, h2, h3⟩
      · exact same
    · next r n =>
      split
      · next τ xs hst =>
        obtain ⟨h1, h2, h3⟩ := vw_mv hr hst n
        exact ⟨mvC c r (.vec τ 0 (xs.take n)), rfl, rfl, h1, h2, h3⟩
      · exact same
    · exact same
  | .ro t, v, c, hr => by
    have same : ∃ c', c'.w = c.w ∧ c'.st = c.st ∧ Rel w0 c' ∧ Ext c c' ∧ ∀ u, RelV c v u → RelV c' v u := ⟨c, rfl, rfl, hr, Ext.refl c, fun u h => h⟩
    simp only [ownR]
    split
    · refine ⟨c, rfl, rfl, hr, Ext.refl c, fun u h => ?_⟩
      simp only [RelV] at h ⊢
      subst h
      simp [RoV, SlV]
    · next r =>
      split
      · next τ f xs hst =>
        obtain ⟨g1, g2, g3⟩ := frz_rel hr hst
        exact ⟨frzC c r τ xs, rfl, rfl, g1, g2, g3⟩
      · exact same
    · next r lo n =>
      split
      · next τ f xs hst =>
        obtain ⟨g1, g2, _⟩ := frz_rel hr hst
        exact ⟨frzC c r τ xs, rfl, rfl, g1, g2, fun u hu => vw_frz hr hst hu⟩
      · exact same
    · exact same
  | .vw, v, c, hr => by
    have same : ∃ c', c'.w = c.w ∧ c'.st = c.st ∧ Rel w0 c' ∧ Ext c c' ∧ ∀ u, RelV c v u → RelV c' v u := ⟨c, rfl, rfl, hr, Ext.refl c, fun u h => h⟩
    simp only [ownR]
    split
    · next r =>
      split
      · next τ f xs hst =>
        refine ⟨c, rfl, rfl, hr, Ext.refl c, fun u h => ?_⟩
        simp only [RelV, hst] at h ⊢
        refine ⟨by omega, ?_⟩
        rcases h with h | ⟨b, cap, h1, h2, h3⟩
        · exact .inl h
        · obtain ⟨hp, _, ⟨hn, _⟩ | ⟨b', ce, e, cap', g1, g2, g3, g4, _⟩⟩ := hr.obj r _ hst
          · rw [hn] at h1; cases h1
          rw [g1] at h1; cases h1
          have hcap : cap = cap' := by
            obtain ⟨ce', e', fz, k1, k2⟩ := h3
            rw [g2] at k1; cases k1
            exact Nat.eq_of_mul_eq_mul_right hp (by omega)
          exact .inr (.inl ⟨b, cap, g1, by rw [Nat.zero_mul]; exact h2, by omega, by rw [Nat.zero_add]; exact h3⟩)
      · exact same
    · exact same
  | .hd, v, c, hr => by
    simp only [ownR]
    split
    · refine ⟨c, rfl, rfl, hr, Ext.refl c, fun u h => ?_⟩
      simp only [RelV] at h ⊢
      exact h
    · exact ⟨c, rfl, rfl, hr, Ext.refl c, fun u h => h⟩
  | .agg l, v, c, hr => by
    simp only [ownR]
    split
    · next cs =>
      obtain ⟨c', h1, h2, h3, h4, h5⟩ := ownRs_sound l cs c hr
      refine ⟨c', h1, h2, h3, h4, fun u h => ?_⟩
      simp only [RelV] at h ⊢
      obtain ⟨us, e, h⟩ := h
      exact ⟨us, e, h5 _ h⟩
    · exact ⟨c, rfl, rfl, hr, Ext.refl c, fun u h => h⟩
  | .tup l, v, c, hr => by
    simp only [ownR]
    split
    · next cs =>
      obtain ⟨c', h1, h2, h3, h4, h5⟩ := ownRs_sound l cs c hr
      refine ⟨c', h1, h2, h3, h4, fun u h => ?_⟩
      simp only [RelV] at h ⊢
      obtain ⟨us, e, h⟩ := h
      exact ⟨us, e, h5 _ h⟩
    · exact ⟨c, rfl, rfl, hr, Ext.refl c, fun u h => h⟩
theorem ownRs_sound {w0 : Base} : ∀ (ss : List Rs) (l : List V) (c : Cfg), Rel w0 c → ∃ c', c'.w = c.w ∧ c'.st = (ownRs ss l c.st).2 ∧ Rel w0 c' ∧ Ext c c' ∧ ∀ us, RelVs c l us → RelVs c' (ownRs ss l c.st).1 us
  | [], l, c, hr => ⟨c, rfl, by simp only [ownRs], hr, Ext.refl c, fun u h => by simpa only [ownRs] using h⟩
  | s :: r, l, c, hr => by
    simp only [ownRs]
    split
    · next v vs =>
      obtain ⟨c1, h1, h2, h3, h4, h5⟩ := ownR_sound s v c hr
      obtain ⟨c2, k1, k2, k3, k4, k5⟩ := ownRs_sound r vs c1 h3
      rw [h2] at k2 k5
      refine ⟨c2, k1.trans h1, k2, k3, h4.trans k4, fun us h => ?_⟩
      simp only [RelVs] at h ⊢
      obtain ⟨u, us', e, g1, g2⟩ := h
      exact ⟨u, us', e, RelV.ext k4 _ _ (h5 u g1), k5 _ (RelVs.ext h4 _ _ g2)⟩
    · exact ⟨c, rfl, rfl, hr, Ext.refl c, fun u h => h⟩
end

/-- The same, with rows under new names. -/
def mvR (s : Rs) (v : V) (st : List Ob) : V × List Ob := match s with
  | .sl t => ownR (.mv t) v st
  | s => ownR s v st

/-- A change of a value's form under which memory stays as it was. -/
def MSound (m : Rs → V → List Ob → V × List Ob) : Prop :=
  ∀ (w0 : Base) (s : Rs) (v : V) (c : Cfg), Rel w0 c → ∃ c', c'.w = c.w ∧ c'.st = (m s v c.st).2 ∧ Rel w0 c' ∧ Ext c c' ∧ ∀ u, RelV c v u → RelV c' (m s v c.st).1 u

theorem ownR_ms : MSound ownR := fun _ s v c hr => ownR_sound s v c hr

theorem mvR_ms : MSound mvR := by
  intro w0 s v c hr
  unfold mvR
  split
  · exact ownR_sound _ _ c hr
  · exact ownR_sound _ _ c hr

theorem setSlot_rel {c : Cfg} {sl : List V} {tmps : Array Value} (h : SlR c sl tmps) (hg : GdIn [] sl) {s : Nat} {v : V} (hv : RelV c v (tmps.getD s undef)) (hn : ∀ g w x, v ≠ .gd g w x) :
    SlR c (sl.set s v) tmps ∧ GdIn [] (sl.set s v) := by
  refine ⟨⟨by simp; exact h.len, fun t => ?_⟩, fun t g w x e => ?_⟩
  · have hs := h.slot t
    unfold SlotR at hs ⊢
    rw [getD_set]
    by_cases hc : s = t ∧ s < sl.length
    · rw [if_pos hc]
      obtain ⟨rfl, _⟩ := hc
      split
      · next g w x => exact absurd rfl (hn g w x)
      · exact hv
    · rw [if_neg hc]
      exact hs
  · rw [getD_set] at e
    split at e
    · exact absurd e (hn g w x)
    · exact hg t g w x e

theorem slot_plain {c : Cfg} {sl : List V} {tmps : Array Value} (h : SlR c sl tmps) (hg : GdIn [] sl) (t : Nat) : RelV c (sl.getD t .any) (tmps.getD t undef) := by
  have hs := h.slot t
  unfold SlotR at hs
  split at hs
  · next g w v e => exact absurd (hg t g w v e) (by simp)
  · exact hs

/-- Slots in another form. -/
def coS (m : Rs → V → List Ob → V × List Ob) : List (Nat × Rs) → List V → List Ob → List V × List Ob
  | [], sl, st => (sl, st)
  | (s, r) :: l, sl, st => match m r (sl.getD s .any) st with
    | (v, st') => coS m l (sl.set s (nogd v)) st'

theorem coS_sound {m : Rs → V → List Ob → V × List Ob} (hm : MSound m) {w0 : Base} {cb : Cfg} {tmps : Array Value} : ∀ (vs : List (Nat × Rs)) (c : Cfg) (sl : List V), Rel w0 c → Ext cb c → SlR c sl tmps → GdIn [] sl →
    ∃ c', c'.w = c.w ∧ c'.st = (coS m vs sl c.st).2 ∧ Rel w0 c' ∧ Ext cb c' ∧ SlR c' (coS m vs sl c.st).1 tmps ∧ GdIn [] (coS m vs sl c.st).1
  | [], c, sl, hr, hx, hs, hg => ⟨c, rfl, rfl, hr, hx, hs, hg⟩
  | (s, r) :: l, c, sl, hr, hx, hs, hg => by
    obtain ⟨c1, h1, h2, h3, h4, h5⟩ := hm w0 r (sl.getD s .any) c hr
    simp only [coS]
    have hv := nogd_rel (h5 _ (slot_plain hs hg s))
    obtain ⟨k1, k2⟩ := setSlot_rel (s := s) (SlR.ext h4 hs) hg hv (fun _ _ _ => nogd_ne)
    obtain ⟨c2, g1, g2, g3, g4, g5, g6⟩ := coS_sound hm l c1 _ h3 (hx.trans h4) k1 k2
    rw [h2] at g2 g5 g6
    exact ⟨c2, g1.trans h1, g2, g3, g4, g5, g6⟩

theorem getD_get {l : List V} {i : Nat} {v : V} (h : l[i]? = some v) : l.getD i .any = v := by
  rw [List.getD_eq_getElem?_getD, h]; rfl

/-- A cell whose content is told in another form. -/
theorem setcell_rel {w0 : Base} {c c1 : Cfg} (hr : Rel w0 c) (hr1 : Rel w0 c1) (hx : Ext c c1) (hw : c1.w = c.w) {o i : Nat} {cs cs1 : List V} {v : V} (h0 : c.st[o]? = some (.cells cs)) (h1 : c1.st[o]? = some (.cells cs1))
    (hv : ∀ u, RelV c (cs.getD i .any) u → RelV c1 v u) : Rel w0 { c1 with st := c1.st.set o (.cells (cs1.set i v)) } ∧ Ext c1 { c1 with st := c1.st.set o (.cells (cs1.set i v)) } := by
  have hlt : o < c1.st.length := (List.getElem?_eq_some_iff.1 h1).1
  have hlt0 : o < c.st.length := (List.getElem?_eq_some_iff.1 h0).1
  have hx2 : Ext c1 { c1 with st := c1.st.set o (.cells (cs1.set i v)) } := {
    size := Nat.le_refl _
    sub := fun _ _ h => h
    cells := fun _ _ _ => rfl
    len := by simp
    keep := fun r ob hr' h => by
      simp only [List.getElem?_set] at h
      split at h
      · next e =>
        subst e
        cases h
        exact ⟨⟨cs1, h1⟩, rfl⟩
      · cases ob with
        | dead => trivial
        | cells cs2 => exact ⟨⟨_, h⟩, rfl⟩
        | pool m => exact ⟨m, h⟩
        | vec t f xs => exact ⟨f, xs, h, rfl, rfl, fun _ _ _ h => h⟩ }
  have hlive : ∀ r, live (c1.st.set o (.cells (cs1.set i v))) r → live c1.st r := fun r h => by
    unfold live at h ⊢
    rw [List.getElem?_set] at h
    by_cases e : o = r
    · subst e; rw [h1]; trivial
    · rw [if_neg e] at h; exact h
  refine ⟨⟨hr1.below, fun r r' b h h' hb hb' => hr1.inj r r' b (hlive r h) (hlive r' h') hb hb', fun r b h hb => hr1.fresh r b (hlive r h) hb, hr1.bound, hr1.newA, fun r ob h => ?_, PoolOk.keep hr1.pl (fun r m h => by
    simp only [List.getElem?_set] at h
    split at h
    · cases h
    · exact h) (fun r b h hb => .inl ⟨r, hlive r h, hb⟩) (fun _ _ h => .inl h) (fun _ _ _ _ => rfl)⟩, hx2⟩
  simp only [List.getElem?_set] at h
  split at h
  · next e =>
    subst e
    cases h
    obtain ⟨b, ce, e1, g1, g2, g3, g4⟩ := hr1.obj o _ h1
    obtain ⟨b', ce', e', k1, k2, k3, k4⟩ := hr.obj o _ h0
    have hbl : c1.bl o = c.bl o := (hx.keep o _ hlt0 h1).2
    rw [hbl, k1] at g1
    cases g1
    rw [hw, k2] at g2
    cases g2
    refine ⟨b, ce, e1, by rw [← k1, ← hbl], by rw [← k2, ← hw], ?_, g4⟩
    refine RelVs.ext hx2 _ _ ?_
    rcases Nat.lt_or_ge i cs.length with hi | hi
    · obtain ⟨u, hu, hru⟩ := RelVs.get k3 (List.getElem?_eq_getElem hi)
      have hvu : RelV c1 v u := hv u (by rw [getD_get (List.getElem?_eq_getElem hi)]; exact hru)
      have := RelVs.set i g3 hvu
      have e2 : ce.toList.set i u = ce.toList := by
        apply List.ext_getElem?
        intro j
        rw [List.getElem?_set]
        split
        · next e => subst e; split
                    · exact hu.symm
                    · next hn => exact absurd (List.getElem?_eq_some_iff.1 hu).1 hn
        · rfl
      rw [e2] at this
      exact this
    · have l1 := RelVs.length g3
      have l2 := RelVs.length k3
      rw [List.set_eq_of_length_le (by omega)]
      exact g3
  · exact OkOb.keep hx2 rfl (fun _ _ => rfl) (fun _ _ _ h => h) (hr1.obj r ob h)

/-- Cells of objects in another form. -/
def coF (m : Rs → V → List Ob → V × List Ob) : List (Nat × Nat × Rs) → List Ob → List Ob
  | [], st => st
  | (o, i, r) :: l, st => match st[o]? with
    | some (.cells cs) => match m r (cs.getD i .any) st with
      | (v, st') => match st'[o]? with
        | some (.cells cs') => coF m l (st'.set o (.cells (cs'.set i v)))
        | _ => coF m l st
    | _ => coF m l st

theorem coF_sound {m : Rs → V → List Ob → V × List Ob} (hm : MSound m) {w0 : Base} : ∀ (fs : List (Nat × Nat × Rs)) (c : Cfg), Rel w0 c → ∃ c', c'.w = c.w ∧ c'.st = coF m fs c.st ∧ Rel w0 c' ∧ Ext c c'
  | [], c, hr => ⟨c, rfl, rfl, hr, Ext.refl c⟩
  | (o, i, r) :: l, c, hr => by
    simp only [coF]
    split
    · next cs h0 =>
      obtain ⟨c1, h1, h2, h3, h4, h5⟩ := hm w0 r (cs.getD i .any) c hr
      rw [← h2]
      split
      · next cs1 hc1 =>
        obtain ⟨k1, k2⟩ := setcell_rel hr h3 h4 h1 h0 hc1 (fun u hu => h5 u hu)
        obtain ⟨c2, g1, g2, g3, g4⟩ := coF_sound hm l _ k1
        exact ⟨c2, g1.trans h1, g2, g3, (h4.trans k2).trans g4⟩
      · exact coF_sound hm l c hr
    · exact coF_sound hm l c hr

def keepS (keep : List Nat) : Nat → List V → List V
  | _, [] => []
  | i, v :: r => (if keep.contains i = true then v else .any) :: keepS keep (i + 1) r

theorem keepS_len (keep : List Nat) : ∀ (l : List V) (i : Nat), (keepS keep i l).length = l.length
  | [], _ => rfl
  | v :: r, i => by simp [keepS, keepS_len keep r]

theorem keepS_get (keep : List Nat) : ∀ (l : List V) (i t : Nat), (keepS keep i l).getD t .any = if keep.contains (i + t) = true then l.getD t .any else .any
  | [], _, t => by simp [keepS]
  | v :: r, i, 0 => by simp [keepS]
  | v :: r, i, t + 1 => by
    have := keepS_get keep r (i + 1) t
    simp only [keepS, List.getD_cons_succ]
    rw [this, show i + 1 + t = i + (t + 1) from by omega]

theorem renDL_get : ∀ {g : List Nat} {vs vs' : List V}, renDL g vs = some vs' → vs'.length = vs.length ∧ ∀ t, renD g (vs.getD t .any) = some (vs'.getD t .any)
  | g, [], vs', h => by
    simp only [renDL, Option.some.injEq] at h
    subst h
    exact ⟨rfl, fun t => by simp [renD]⟩
  | g, v :: vs, vs', h => by
    simp only [renDL] at h
    split at h
    · next v1 vs1 e1 e2 =>
      cases h
      obtain ⟨h1, h2⟩ := renDL_get e2
      refine ⟨by simp [h1], fun t => ?_⟩
      cases t with
      | zero => simpa using e1
      | succ t => simpa using h2 t
    · cases h

theorem renD_ne {g : List Nat} {v : V} {a : Nat} {b : Bool} {x : V} : renD g v ≠ some (.gd a b x) := by
  cases v <;> simp only [renD] <;> first | (intro h; cases h; done) | (split <;> intro h <;> cases h; done) | skip

/-- The objects ahead of L0 under their names, the others that are reached under new ones; other slots forgotten. -/
def normD (L0 : Nat) (keep : List Nat) (sl : List V) (st : List Ob) : Option (List V × List Ob) :=
  match keepS keep 0 sl with
  | sl0 => match reach st 4 (addN (List.range L0) (namesL sl0)) with
    | g => bif distinct g && (List.range L0).all (fun r => match g[r]? with | some i => Nat.beq i r | none => false) then
        (match renDL g sl0 with
        | some sl' => some (sl', g.map fun i => renO g (st.getD i .dead))
        | none => none)
      else none

theorem normD_sound {w0 : Base} {cb c : Cfg} {L0 : Nat} {keep : List Nat} {sl sl' : List V} {st' : List Ob} {tmps : Array Value} (hr : Rel w0 c) (hx : Ext cb c) (hs : SlR c sl tmps) (hg : GdIn [] sl)
    (hL : cb.st.length ≤ L0) (h : normD L0 keep sl c.st = some (sl', st')) : ∃ c', c'.w = c.w ∧ c'.st = st' ∧ Rel w0 c' ∧ Ext cb c' ∧ SlR c' sl' tmps ∧ GdIn [] sl' := by
  unfold normD at h
  simp only at h
  generalize reach c.st 4 (addN (List.range L0) (namesL (keepS keep 0 sl))) = g at h
  cases hc : distinct g && (List.range L0).all (fun r => match g[r]? with | some i => Nat.beq i r | none => false) with
  | false => rw [hc] at h; cases h
  | true =>
    rw [hc] at h
    simp only [cond_true] at h
    simp only [Bool.and_eq_true, List.all_eq_true] at hc
    obtain ⟨hd, ha⟩ := hc
    split at h
    · next sl2 hren =>
      cases h
      obtain ⟨hlen, hget⟩ := renDL_get hren
      refine ⟨reD c g, rfl, rfl, reD_rel hr hd, reD_ext hx (fun r hrl => ?_), ⟨by rw [hlen, keepS_len]; exact hs.len, fun t => ?_⟩, fun t a b x e => ?_⟩
      · have := ha r (by simp; omega)
        split at this
        · next i hi => rw [hi, Nat.eq_of_beq_eq_true this]
        · cases this
      · have hsl : RelV c ((keepS keep 0 sl).getD t .any) (tmps.getD t undef) := by
          rw [keepS_get]
          split
          · exact slot_plain hs hg t
          · simp only [RelV]
        have := renD_rel _ _ _ (hget t) hsl
        unfold SlotR
        split
        · next a b x e => exact absurd (e ▸ hget t) renD_ne
        · exact this
      · exact absurd (e ▸ hget t) renD_ne
    · cases h

/-- A head's slots out of those that are kept. -/
def bld : List Nat → List V → Nat → Nat → List V
  | _, _, _, 0 => []
  | k :: ks, v :: vs, i, n + 1 => if i = k then v :: bld ks vs (i + 1) n else .any :: bld (k :: ks) (v :: vs) (i + 1) n
  | ks, vs, i, n + 1 => .any :: bld ks vs (i + 1) n

def rising : Nat → List Nat → Bool
  | _, [] => true
  | i, k :: ks => Nat.ble i k && rising (k + 1) ks

theorem bld_nil (i : Nat) (vs : List V) : ∀ n, bld [] vs i n = List.replicate n .any := by
  intro n
  induction n generalizing i with
  | zero => cases vs <;> rfl
  | succ n ih => cases vs <;> simp only [bld, ih, List.replicate_succ]

theorem keepS_none (keep : List Nat) : ∀ (sl : List V) (i : Nat), (∀ k, k ∈ keep → k < i) → keepS keep i sl = List.replicate sl.length .any
  | [], i, _ => rfl
  | v :: r, i, h => by
    have hn : keep.contains i = false := by
      cases hc : keep.contains i with
      | false => rfl
      | true => exact absurd (h i (by simpa using hc)) (by omega)
    simp only [keepS, hn, Bool.false_eq_true, if_false, List.length_cons, List.replicate_succ]
    rw [keepS_none keep r (i + 1) (fun k hk => Nat.lt_succ_of_lt (h k hk))]

theorem keepS_cons (k : Nat) (ks : List Nat) : ∀ (sl : List V) (i : Nat), k < i → keepS (k :: ks) i sl = keepS ks i sl
  | [], _, _ => rfl
  | v :: r, i, h => by
    have : (k :: ks).contains i = ks.contains i := by
      simp only [List.contains_cons]
      have : (i == k) = false := by simp; omega
      rw [this, Bool.false_or]
    simp only [keepS, this]
    rw [keepS_cons k ks r (i + 1) (by omega)]

theorem rising_lt : ∀ {ks : List Nat} {i j : Nat}, rising i ks = true → j ∈ ks → i ≤ j
  | k :: ks, i, j, h, hj => by
    simp only [rising, Bool.and_eq_true, Nat.ble_eq] at h
    rcases List.mem_cons.1 hj with rfl | hj
    · exact h.1
    · have := rising_lt h.2 hj; omega

theorem keepS_bld : ∀ (sl : List V) (ks : List Nat) (i : Nat), rising i ks = true → keepS ks i sl = bld ks (ks.map fun k => sl.getD (k - i) .any) i sl.length
  | [], ks, i, _ => by cases ks <;> rfl
  | v :: r, [], i, _ => by
    rw [List.map_nil, bld_nil, keepS_none [] (v :: r) i (by simp)]
  | v :: r, k :: ks, i, h => by
    have h0 := h
    simp only [rising, Bool.and_eq_true, Nat.ble_eq] at h
    simp only [List.map_cons, List.length_cons, bld]
    by_cases hik : i = k
    · subst hik
      rw [if_pos rfl]
      simp only [keepS, List.contains_cons, beq_self_eq_true, Bool.true_or, if_true, Nat.sub_self, List.getD_cons_zero]
      rw [keepS_cons i ks r (i + 1) (by omega), keepS_bld r ks (i + 1) h.2]
      congr 2
      apply List.map_congr_left
      intro j hj
      have := rising_lt h.2 hj
      rw [show j - i = (j - (i + 1)) + 1 from by omega, List.getD_cons_succ]
    · rw [if_neg hik]
      have hn : (k :: ks).contains i = false := by
        cases hc : (k :: ks).contains i with
        | false => rfl
        | true =>
          have hm : i ∈ k :: ks := by simpa using hc
          rcases List.mem_cons.1 hm with rfl | hm
          · exact absurd rfl hik
          · have := rising_lt h.2 hm; omega
      simp only [keepS, hn, Bool.false_eq_true, if_false]
      rw [keepS_bld r (k :: ks) (i + 1) (by simp only [rising, Bool.and_eq_true, Nat.ble_eq]; exact ⟨by omega, h.2⟩)]
      simp only [List.map_cons]
      rw [show k - i = (k - (i + 1)) + 1 from by omega, List.getD_cons_succ]
      congr 3
      apply List.map_congr_left
      intro j hj
      have := rising_lt h.2 hj
      rw [show j - i = (j - (i + 1)) + 1 from by omega, List.getD_cons_succ]

theorem keepS_idem {keep : List Nat} : ∀ (l : List V) (i : Nat), (∀ t, keep.contains (i + t) = false → l.getD t .any = .any) → keepS keep i l = l
  | [], _, _ => rfl
  | v :: r, i, h => by
    simp only [keepS]
    rw [keepS_idem r (i + 1) fun t ht => by
      have := h (t + 1) (by rw [show i + (t + 1) = i + 1 + t from by omega]; exact ht)
      simpa using this]
    split
    · rfl
    · next hn =>
      have := h 0 (by simpa using hn)
      simp only [List.getD_cons_zero] at this
      rw [this]

theorem normD_form {L0 : Nat} {keep : List Nat} {sl sl' : List V} {st st' : List Ob} (hris : rising 0 keep = true) (h : normD L0 keep sl st = some (sl', st')) :
    sl' = bld keep (keep.map fun k => sl'.getD k .any) 0 sl'.length := by
  unfold normD at h
  simp only at h
  generalize reach st 4 (addN (List.range L0) (namesL (keepS keep 0 sl))) = g at h
  cases hc : distinct g && (List.range L0).all (fun r => match g[r]? with | some i => Nat.beq i r | none => false) with
  | false => rw [hc] at h; cases h
  | true =>
    rw [hc] at h
    simp only [cond_true] at h
    split at h
    · next sl2 hren =>
      cases h
      obtain ⟨hlen, hget⟩ := renDL_get hren
      have hk : keepS keep 0 sl' = sl' := keepS_idem sl' 0 fun t ht => by
        rw [Nat.zero_add] at ht
        have := hget t
        rw [keepS_get, Nat.zero_add, ht] at this
        simp only [Bool.false_eq_true, if_false, renD, Option.some.injEq] at this
        exact this.symm
      have := keepS_bld sl' keep 0 hris
      rw [hk] at this
      simpa only [Nat.sub_zero] using this
    · cases h

/-- Slots and cells in another form, and then under new names. -/
def form (m : Rs → V → List Ob → V × List Ob) (vecs : List (Nat × Rs)) (flds : List (Nat × Nat × Rs)) (L0 : Nat) (keep : List Nat) (sl : List V) (st : List Ob) : Option (List V × List Ob) :=
  match coS m vecs sl st with
  | (sl1, st1) => normD L0 keep sl1 (coF m flds st1)

theorem form_sound {m : Rs → V → List Ob → V × List Ob} (hm : MSound m) {w0 : Base} {cb c : Cfg} {vecs : List (Nat × Rs)} {flds : List (Nat × Nat × Rs)} {L0 : Nat} {keep : List Nat} {sl sl' : List V} {st' : List Ob} {tmps : Array Value} (hr : Rel w0 c) (hx : Ext cb c) (hs : SlR c sl tmps) (hg : GdIn [] sl)
    (hL : cb.st.length ≤ L0) (h : form m vecs flds L0 keep sl c.st = some (sl', st')) : ∃ c', c'.w = c.w ∧ c'.st = st' ∧ Rel w0 c' ∧ Ext cb c' ∧ SlR c' sl' tmps ∧ GdIn [] sl' := by
  unfold form at h
  obtain ⟨c1, h1, h2, h3, h4, h5, h6⟩ := coS_sound hm vecs c sl hr hx hs hg
  obtain ⟨c2, k1, k2, k3, k4⟩ := coF_sound hm flds c1 h3
  have e : coF m flds (coS m vecs sl c.st).2 = c2.st := by rw [k2, h2]
  generalize hp : coS m vecs sl c.st = p at *
  obtain ⟨sl1, st1⟩ := p
  simp only at h e h5 h6
  rw [e] at h
  obtain ⟨c', g1, g2, g3, g4, g5, g6⟩ := normD_sound k3 (h4.trans k4) (SlR.ext k4 h5) h6 hL h
  exact ⟨c', g1.trans (k1.trans h1), g2, g3, g4, g5, g6⟩

theorem form_form {m : Rs → V → List Ob → V × List Ob} {vecs : List (Nat × Rs)} {flds : List (Nat × Nat × Rs)} {L0 : Nat} {keep : List Nat} {sl sl' : List V} {st st' : List Ob} (hris : rising 0 keep = true) (h : form m vecs flds L0 keep sl st = some (sl', st')) :
    sl' = bld keep (keep.map fun k => sl'.getD k .any) 0 sl'.length := by
  unfold form at h
  exact normD_form hris h

def norm? (o : Option (List V × List Ob)) (K : St) : Prop := match o with
  | some (x, y) => K x y
  | none => False

theorem norm_out {o : Option (List V × List Ob)} {K : List V → List Ob → Prop} (h : norm? o K) : ∃ sl st, o = some (sl, st) ∧ K sl st := by
  cases o with
  | none => exact h.elim
  | some p => obtain ⟨x, y⟩ := p; exact ⟨x, y, rfl, h⟩

end Eng
end Go.Proofs.YtkpplfghhciacaaDoor

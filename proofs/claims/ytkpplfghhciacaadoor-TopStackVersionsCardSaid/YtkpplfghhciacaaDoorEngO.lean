/-
  Callers: a call by contract (the arguments are lent) and a call that is walked in place. Conditions: none.
-/
import Derived.Test.YtkpplfghhciacaaDoorEngNa
set_option linter.unusedVariables false
set_option linter.unusedSimpArgs false
namespace Go.Proofs.YtkpplfghhciacaaDoor
namespace Eng
open Go.RowKit

def closeL (f : V → Option V) : List V → Option (List V)
  | [] => some []
  | v :: vs => match f v, closeL f vs with
    | some v', some vs' => some (v' :: vs')
    | _, _ => none

/-- A value without names of objects: what they hold is lent for reading. -/
def closeB (st : List Ob) : Nat → V → Option V
  | 0, _ => none
  | n + 1, v => match v with
    | .any => some .any
    | .x v => some (.x v)
    | .ro t xs => some (.ro t xs)
    | .rc cs j => match closeL (closeB st n) cs with
      | some cs' => some (.rc cs' j)
      | none => none
    | .vec r => match st[r]? with
      | some (.vec t _ xs) => some (.ro t xs)
      | _ => none
    | .vw r lo n => match st[r]? with
      | some (.vec t _ xs) => some (.ro t ((xs.drop lo).take n))
      | _ => none
    | .cl r i => match st[r]? with
      | some (.cells cs) => match closeL (closeB st n) cs with
        | some cs' => some (.rc cs' i)
        | none => none
      | _ => none
    | .el r i j => match st[r]? with
      | some (.vec t _ xs) => some (.rc (enc t (xs.getD i t.dflt)) j)
      | _ => none
    | .agg cs => match closeL (closeB st n) cs with
      | some cs' => some (.agg cs')
      | none => none
    | .tup cs => match closeL (closeB st n) cs with
      | some cs' => some (.tup cs')
      | none => none
    | .fn f a b => match closeL (closeB st n) a, closeL (closeB st n) b with
      | some a', some b' => some (.fn f a' b')
      | _, _ => none
    | .gd _ _ _ => none
    | .hd _ => some .any
    | .pt _ _ => some .any

def lent (w : World) : Cfg := cfg0 w fun b _ => b < w.heap.size

theorem RoV.lend {w : World} {A : Nat → Nat → Prop} (h : ∀ b o, A b o → b < w.heap.size) {t : Ty} {x : t.den} {us : List Value} (hr : RoV w A t x us) : RoV w (fun b _ => b < w.heap.size) t x us :=
  RoV.ext (fun b o ha => h b o ha) (fun _ _ _ => rfl) hr

theorem closeB_sound {w0 : Base} {c : Cfg} (hr : Rel w0 c) : ∀ (n : Nat) (v v' : V) (u : Value), closeB c.st n v = some v' → RelV c v u → RelV (lent c.w) v' u := by
  intro n
  induction n with
  | zero => intro v v' u h; simp [closeB] at h
  | succ n ih =>
    have ihL : ∀ (vs vs' : List V) (us : List Value), closeL (closeB c.st n) vs = some vs' → RelVs c vs us → RelVs (lent c.w) vs' us := by
      intro vs
      induction vs with
      | nil =>
        intro vs' us h hr
        simp only [closeL, Option.some.injEq] at h
        subst h
        simpa only [RelVs] using hr
      | cons v vs ihv =>
        intro vs' us h hr
        simp only [closeL] at h
        split at h
        · next v1 vs1 e1 e2 =>
          cases h
          simp only [RelVs] at *
          obtain ⟨u, us', e, h1, h2⟩ := hr
          exact ⟨u, us', e, ih v v1 u e1 h1, ihv vs1 us' e2 h2⟩
        · cases h
    intro v v' u h hv
    simp only [closeB] at h
    split at h
    · cases h; simp only [RelV]
    · cases h; simpa only [RelV] using hv
    · cases h
      simp only [RelV] at *
      exact RoV.lend (fun b o ha => hr.bound b o ha) hv
    · next cs j =>
      split at h
      · next cs' hcs =>
        cases h
        simp only [RelV] at *
        obtain ⟨b, o, e, hc⟩ := hv
        obtain ⟨us, h1, h2⟩ := RelC.list hc
        exact ⟨b, o, e, RelC.mk (ihL _ _ _ hcs h1) fun j u hj => ⟨(h2 j u hj).1, hr.bound _ _ (h2 j u hj).2⟩⟩
      · cases h
    · next r =>
      split at h
      · next t f xs hst =>
        cases h
        obtain ⟨g1, g2, g3⟩ := frz_rel hr hst
        have := g3 u hv
        simp only [RelV] at this ⊢
        exact RoV.lend (w := c.w) (fun b o ha => g1.bound b o ha) this
      · cases h
    · next r lo n =>
      split at h
      · next t f xs hst =>
        cases h
        obtain ⟨g1, g2, g3⟩ := frz_rel hr hst
        have := vw_frz hr hst hv
        simp only [RelV] at this ⊢
        exact RoV.lend (w := c.w) (fun b o ha => g1.bound b o ha) this
      · cases h
    · next r i =>
      split at h
      · next cs hst =>
        split at h
        · next cs' hcs =>
          cases h
          simp only [RelV, hst] at hv
          obtain ⟨b, hb, rfl⟩ := hv
          obtain ⟨b', ce, e, hb', hheap, hvs, _⟩ := hr.obj r _ hst
          rw [hb] at hb'; cases hb'
          simp only [RelV]
          have hlt : b < c.w.heap.size := (Array.getElem?_eq_some_iff.1 hheap).1
          refine ⟨b, 0, by rw [Nat.zero_add], RelC.mk (ihL _ _ _ hcs hvs) fun j x hj => ⟨?_, hlt⟩⟩
          show c.w.cell? _ = _
          rw [cell_of_row _ _ _ _ _ _ hheap, Nat.zero_add]
          simpa using hj
        · cases h
      · cases h
    · next r i j =>
      split at h
      · next t f xs hst =>
        cases h
        simp only [RelV, hst] at hv
        obtain ⟨b, hb, rfl, hi⟩ := hv
        obtain ⟨hp, _, ⟨hn, _⟩ | ⟨b', ce, e, cap, hb', hheap, hsz, hcap, hrow, _⟩⟩ := hr.obj r _ hst
        · rw [hb] at hn; cases hn
        rw [hb] at hb'; cases hb'
        have hlt : b < c.w.heap.size := (Array.getElem?_eq_some_iff.1 hheap).1
        have hy : xs[i]? = some (xs.getD i t.dflt) := by simp [List.getD, List.getElem?_eq_getElem hi]
        have h1 := RoV.lend (w := c.w) (fun b o ha => hr.bound b o ha) (hrow i _ hy)
        simp only [RelV]
        refine ⟨b, i * t.size, rfl, RelC.mk (RoV.rel (c := lent c.w) h1) fun k x hk => ⟨?_, hlt⟩⟩
        show c.w.cell? _ = _
        rw [List.getElem?_take] at hk
        split at hk
        · rw [List.getElem?_drop] at hk
          rw [cell_of_row _ _ _ _ _ _ hheap]
          simpa using hk
        · cases hk
      · cases h
    · next cs =>
      split at h
      · next cs' hcs =>
        cases h
        simp only [RelV] at *
        obtain ⟨us, e, h1⟩ := hv
        exact ⟨us, e, ihL _ _ _ hcs h1⟩
      · cases h
    · next cs =>
      split at h
      · next cs' hcs =>
        cases h
        simp only [RelV] at *
        obtain ⟨us, e, h1⟩ := hv
        exact ⟨us, e, ihL _ _ _ hcs h1⟩
      · cases h
    · next f a b =>
      split at h
      · next a' b' ha hb =>
        cases h
        simp only [RelV] at *
        obtain ⟨us1, us2, e, h1, h2⟩ := hv
        exact ⟨us1, us2, e, ihL _ _ _ ha h1, ihL _ _ _ hb h2⟩
      · cases h
    · cases h
    · cases h; simp only [RelV]
    · cases h; simp only [RelV]

theorem closeL_sound {w0 : Base} {c : Cfg} (hr : Rel w0 c) {n : Nat} : ∀ {vs vs' : List V} {us : List Value}, closeL (closeB c.st n) vs = some vs' → RelVs c vs us → RelVs (lent c.w) vs' us
  | [], vs', us, h, hv => by
    simp only [closeL, Option.some.injEq] at h
    subst h
    simpa only [RelVs] using hv
  | v :: vs, vs', us, h, hv => by
    simp only [closeL] at h
    split at h
    · next v1 vs1 e1 e2 =>
      cases h
      simp only [RelVs] at *
      obtain ⟨u, us', e, h1, h2⟩ := hv
      exact ⟨u, us', e, closeB_sound hr n v v1 u e1 h1, closeL_sound hr e2 h2⟩
    · cases h

def isHd : V → Bool
  | .hd _ => true
  | .agg cs => cs.any fun v => match v with
    | .hd _ => true
    | _ => false
  | _ => false

def isHr : Ob → Bool
  | .vec t _ _ => hasH t
  | _ => false

/-- Are there headers in what is lent? -/
def needH (st : List Ob) (args : List V) : Bool := args.any isHd || (reach st 4 (addN [] (namesL args))).any fun i => isHr (st.getD i .dead)

def lendP (args : List V) (st : List Ob) (k : List V → Prop) : Prop := match closeL (closeB st 8) args with
  | some args' => k args'
  | none => False

/-- Arguments are lent; headers as the lists that they stand for. -/
def lendK (args : List V) (st : List Ob) (k : List V → Prop) : Prop := match poolAt 0 st with
  | some (_, m) => bif needH st args then andL (condS m st) (andL (condVs m args) (lendP (hdVs m args) (st.map (stl m)) k)) else lendP args st k
  | none => lendP args st k

theorem lendP_sound {w0 : Base} {c : Cfg} (hr : Rel w0 c) {args : List V} {us : List Value} {k : List V → Prop} (ha : RelVs c args us) (h : lendP args c.st k) : ∃ args', RelVs (lent c.w) args' us ∧ k args' := by
  unfold lendP at h
  split at h
  · next args' he => exact ⟨args', closeL_sound hr he ha, h⟩
  · exact h.elim

theorem lendK_sound {w0 : Base} {c : Cfg} (hr : Rel w0 c) {args : List V} {us : List Value} {k : List V → Prop} (ha : RelVs c args us) (h : lendK args c.st k) : ∃ args', RelVs (lent c.w) args' us ∧ k args' := by
  unfold lendK at h
  split at h
  · next p m hm =>
    cases hn : needH c.st args with
    | false => rw [hn] at h; exact lendP_sound hr ha h
    | true =>
      rw [hn] at h
      obtain ⟨h1, h⟩ := andL_out h
      obtain ⟨h2, h⟩ := andL_out h
      exact lendP_sound (c := stlC c m) (stlC_rel hr hm h1) (hdVs_rel hr hm args us h2 ha) h
  · exact lendP_sound hr ha h

/-- Data without slices. -/
def flatT : Ty → Bool
  | .slice _ => false
  | .pair a b => flatT a && flatT b
  | _ => true

theorem flatT_rel {w w' : World} {A A' : Nat → Nat → Prop} : ∀ {t : Ty} {x : t.den} {us : List Value}, flatT t = true → RoV w A t x us → RoV w' A' t x us
  | .int _, _, _, _, h | .bool, _, _, _, h | .str, _, _, _, h | .unit, _, _, _, h | .hnd, _, _, _, h => h
  | .pair a b, p, us, hf, h => by
    simp only [flatT, Bool.and_eq_true] at hf
    obtain ⟨us1, us2, e, h1, h2⟩ := h
    exact ⟨us1, us2, e, flatT_rel hf.1 h1, flatT_rel hf.2 h2⟩
  | .slice _, _, _, hf, _ => by simp [flatT] at hf

mutual
def flatV : V → Bool
  | .any => true
  | .x _ => true
  | .vec _ => true
  | .agg cs => flatVs cs
  | .tup cs => flatVs cs
  | _ => false
def flatVs : List V → Bool
  | [] => true
  | v :: vs => flatV v && flatVs vs
end

mutual
def shiftV (n : Nat) : V → V
  | .vec r => .vec (n + r)
  | .agg cs => .agg (shiftVs n cs)
  | .tup cs => .tup (shiftVs n cs)
  | v => v
def shiftVs (n : Nat) : List V → List V
  | [] => []
  | v :: vs => shiftV n v :: shiftVs n vs
end

def flatOb : Ob → Bool
  | .vec t _ _ => flatT t
  | .dead => true
  | .cells _ => false
  | .pool _ => false

/-- The caller's memory with what a callee has made. -/
def joinC (c c1 : Cfg) : Cfg :=
  { w := c1.w, bl := fun r => if r < c.st.length then c.bl r else c1.bl (r - c.st.length), st := c.st ++ c1.st, A := c.A }

theorem join_rel {w0 : Base} {c c1 : Cfg} (hr : Rel w0 c) (h1 : Rel ⟨c.w, fun b _ => b < c.w.heap.size, fun _ => False⟩ c1) (hf : c1.st.all flatOb = true) : Rel w0 (joinC c c1) ∧ Ext c (joinC c c1) := by
  have hbl1 : ∀ r, r < c.st.length → (joinC c c1).bl r = c.bl r := fun r h => by simp only [joinC]; rw [if_pos h]
  have hbl2 : ∀ k, (joinC c c1).bl (c.st.length + k) = c1.bl k := fun k => by simp only [joinC]; rw [if_neg (by omega)]; congr 1; omega
  have hcell : ∀ b o, b < c.w.heap.size → c1.w.cell? ⟨b, o, none⟩ = c.w.cell? ⟨b, o, none⟩ := fun b o h => World.cell?_of_block (w := c.w) (h1.below.block b (noOwn h))
  have hx : Ext c (joinC c c1) := {
    size := h1.below.size
    sub := fun _ _ h => h
    cells := fun b o h => hcell b o (hr.bound b o h)
    len := by simp [joinC]
    keep := fun r ob hrl h => by
      simp only [joinC] at h
      rw [List.getElem?_append_left hrl] at h
      cases ob with
      | dead => trivial
      | cells cs => exact ⟨⟨cs, h⟩, hbl1 r hrl⟩
      | pool m => exact ⟨m, h⟩
      | vec t f xs =>
        refine ⟨f, xs, h, rfl, hbl1 r hrl, fun b n hb hrows => ?_⟩
        obtain ⟨ce, e, fz, g1, g2⟩ := hrows
        have hlt := bl_lt hr (live_of h (by simp)) hb
        exact ⟨ce, e, fz, by show c1.w.heap[b]? = _; rw [h1.below.block b (noOwn hlt)]; exact g1, g2⟩ }
  refine ⟨?_, hx⟩
  have hlive : ∀ r, live (joinC c c1).st r → (r < c.st.length ∧ live c.st r ∧ (joinC c c1).bl r = c.bl r) ∨ (∃ k, r = c.st.length + k ∧ live c1.st k ∧ (joinC c c1).bl r = c1.bl k) := by
    intro r h
    obtain ⟨ob, h2, h3⟩ := live_of' h
    simp only [joinC] at h2
    rcases Nat.lt_or_ge r c.st.length with g | g
    · rw [List.getElem?_append_left g] at h2
      exact .inl ⟨g, live_of h2 h3, hbl1 r g⟩
    · rw [List.getElem?_append_right g] at h2
      refine .inr ⟨r - c.st.length, by omega, live_of h2 h3, ?_⟩
      have := hbl2 (r - c.st.length)
      rwa [show c.st.length + (r - c.st.length) = r from by omega] at this
  exact {
    below := ⟨hr.below.b0.trans h1.below.b0, fun k hk => by
      have hs := hr.below.size
      have hk2 : k < c.w.heap.size := by
        rcases Nat.lt_or_ge k w0.w.heap.size with g | g
        · omega
        · exact absurd (.inl g) hk
      exact (h1.below.block k (noOwn hk2)).trans (hr.below.block k hk)⟩
    inj := fun r r' b h h' hb hb' => by
      rcases hlive r h with ⟨g, g1, g2⟩ | ⟨k, rfl, g1, g2⟩ <;> rcases hlive r' h' with ⟨g', k1, k2⟩ | ⟨k', rfl, k1, k2⟩
      · exact hr.inj r r' b g1 k1 (g2 ▸ hb) (k2 ▸ hb')
      · have a1 := bl_lt hr g1 (g2 ▸ hb)
        rcases h1.fresh _ b k1 (k2 ▸ hb') with a2 | a2
        · simp only at a2; omega
        · exact a2.elim
      · have a1 := bl_lt hr k1 (k2 ▸ hb')
        rcases h1.fresh _ b g1 (g2 ▸ hb) with a2 | a2
        · simp only at a2; omega
        · exact a2.elim
      · rw [h1.inj k k' b g1 k1 (g2 ▸ hb) (k2 ▸ hb')]
    fresh := fun r b h hb => by
      rcases hlive r h with ⟨g, g1, g2⟩ | ⟨k, rfl, g1, g2⟩
      · exact hr.fresh r b g1 (g2 ▸ hb)
      · have a2 := hr.below.size
        rcases h1.fresh _ b g1 (g2 ▸ hb) with a1 | a1
        · simp only at a1
          exact .inl (by omega)
        · exact a1.elim
    bound := fun b o h => by
      have := hr.bound b o h
      have := h1.below.size
      show b < c1.w.heap.size
      simp only at this; omega
    newA := hr.newA
    obj := fun r ob h => by
      have h0 := h
      simp only [joinC] at h
      rcases Nat.lt_or_ge r c.st.length with g | g
      · rw [List.getElem?_append_left g] at h
        cases ob with
        | dead => trivial
        | _ =>
          refine OkOb.keep hx (hbl1 r g) (fun b hb => ?_) (fun _ _ _ h => h) (hr.obj r _ h)
          exact h1.below.block b (noOwn (bl_lt hr (live_of h (by simp)) hb))
      · rw [List.getElem?_append_right g] at h
        have hfo : flatOb ob = true := by
          rw [List.all_eq_true] at hf
          exact hf _ (List.mem_of_getElem? h)
        cases ob with
        | dead => trivial
        | cells cs => simp [flatOb] at hfo
        | pool m => simp [flatOb] at hfo
        | vec t f xs =>
          simp only [flatOb] at hfo
          have hbr : (joinC c c1).bl r = c1.bl (r - c.st.length) := by
            have := hbl2 (r - c.st.length)
            rwa [show c.st.length + (r - c.st.length) = r from by omega] at this
          obtain ⟨a1, a2, ⟨a3, a4⟩ | ⟨b, ce, e, cap, a3, a4, a5, a6, a7, a8⟩⟩ := h1.obj _ _ h
          · exact ⟨a1, a2, .inl ⟨hbr.trans a3, a4⟩⟩
          · refine ⟨a1, a2, .inr ⟨b, ce, e, cap, hbr.trans a3, a4, a5, a6, fun i y hy => flatT_rel hfo (a7 i y hy), fun o _ hn => ?_⟩⟩
            have k1 := hr.bound b o hn
            rcases h1.fresh _ b (live_of h (by simp)) a3 with k2 | k2
            · simp only at k2; omega
            · exact k2.elim
    pl := PoolOk.keep hr.pl (fun r m h => by
        simp only [joinC] at h
        rcases Nat.lt_or_ge r c.st.length with g | g
        · rwa [List.getElem?_append_left g] at h
        · rw [List.getElem?_append_right g] at h
          rw [List.all_eq_true] at hf
          have := hf _ (List.mem_of_getElem? h)
          simp [flatOb] at this) (fun r b h hb => by
        rcases hlive r h with ⟨g, g1, g2⟩ | ⟨k, rfl, g1, g2⟩
        · exact .inl ⟨r, g1, g2 ▸ hb⟩
        · rcases h1.fresh _ b g1 (g2 ▸ hb) with a1 | a1
          · exact .inr (.inl a1)
          · exact a1.elim) (fun _ _ h => .inl h) (fun b hb _ _ => h1.below.block b (noOwn hb)) }

mutual
theorem shiftV_rel {c c1 : Cfg} : ∀ (v : V) (u : Value), flatV v = true → RelV c1 v u → RelV (joinC c c1) (shiftV c.st.length v) u
  | .any, u, _, _ => by simp only [shiftV, RelV]
  | .x x, u, _, h => by simpa only [shiftV, RelV] using h
  | .vec r, u, _, h => by
    simp only [shiftV, RelV] at *
    have hst : (joinC c c1).st[c.st.length + r]? = c1.st[r]? := by
      simp only [joinC]
      rw [List.getElem?_append_right (by omega)]
      congr 1; omega
    have hbl : (joinC c c1).bl (c.st.length + r) = c1.bl r := by simp only [joinC]; rw [if_neg (by omega)]; congr 1; omega
    rw [hst, hbl]
    exact h
  | .agg cs, u, hf, h => by
    simp only [flatV] at hf
    simp only [shiftV, RelV] at *
    obtain ⟨us, e, h1⟩ := h
    exact ⟨us, e, shiftVs_rel cs _ hf h1⟩
  | .tup cs, u, hf, h => by
    simp only [flatV] at hf
    simp only [shiftV, RelV] at *
    obtain ⟨us, e, h1⟩ := h
    exact ⟨us, e, shiftVs_rel cs _ hf h1⟩
  | .ro _ _, _, hf, _ | .rc _ _, _, hf, _ | .cl _ _, _, hf, _ | .el _ _ _, _, hf, _ | .vw _ _ _, _, hf, _ | .fn _ _ _, _, hf, _ | .gd _ _ _, _, hf, _ | .hd _, _, hf, _ | .pt _ _, _, hf, _ => by simp [flatV] at hf
theorem shiftVs_rel {c c1 : Cfg} : ∀ (vs : List V) (us : List Value), flatVs vs = true → RelVs c1 vs us → RelVs (joinC c c1) (shiftVs c.st.length vs) us
  | [], us, _, h => by simpa only [shiftVs, RelVs] using h
  | v :: vs, us, hf, h => by
    simp only [flatVs, Bool.and_eq_true] at hf
    simp only [shiftVs, RelVs] at *
    obtain ⟨u, us', e, h1, h2⟩ := h
    exact ⟨u, us', e, shiftV_rel v u hf.1 h1, shiftVs_rel vs us' hf.2 h2⟩
end

/-- A call by a contract: the arguments are lent, the result holds no slice of theirs. -/
def callB (sem : SemF) (args : List V) (st : List Ob) (K : V → List Ob → Prop) : Prop :=
  lendK args st fun args' => sem args' fun v obs => bif flatV v && obs.all flatOb then K (shiftV st.length v) (st ++ obs) else False

theorem callB_sound {P : Program} {f : FuncId} {sem : SemF} (h : SoundFn P f sem) {w0 : Base} {c : Cfg} {args : List V} {us : Array Value} {K : V → List Ob → Prop} (hr : Rel w0 c) (ha : RelVs c args us.toList) (hc : callB sem args c.st K) :
    Calls P f us c.w fun e w' => ∃ u v c', e = .returned u ∧ c'.w = w' ∧ Rel w0 c' ∧ Ext c c' ∧ RelV c' v u ∧ K v c'.st := by
  unfold callB at hc
  obtain ⟨args', he, hc⟩ := lendK_sound hr ha hc
  refine (h c.w _ args' us _ (fun b o hb => hb) he hc).mono fun e w' hh => ?_
  obtain ⟨u, v, c1, rfl, rfl, h1, h2, h3, h4⟩ := hh
  cases hfl : flatV v && c1.st.all flatOb with
  | false => rw [hfl] at h4; exact h4.elim
  | true =>
    rw [hfl] at h4
    simp only [Bool.and_eq_true] at hfl
    obtain ⟨g1, g2⟩ := join_rel hr h1 hfl.2
    exact ⟨u, _, joinC c c1, rfl, rfl, g1, g2, shiftV_rel v u hfl.1 h3, h4⟩

/-- The contracts at hand. -/
abbrev Ctx := FuncId → Option SemF

def SoundG (P : Program) (Γ : Ctx) : Prop := ∀ f sem, Γ f = some sem → SoundFn P f sem

/-- The contracts of functions that are handed objects over; of an argument that is a slice: none at all is a row. -/
abbrev CtxO := FuncId → Option (List Rs × SemO)

def SoundGO (P : Program) (Δ : CtxO) : Prop := ∀ f x, Δ f = some x → SoundO P f x.2

def callH (x : List Rs × SemO) (args : List V) (st : List Ob) (K : V → List Ob → Prop) : Prop :=
  match ownRs x.1 args st with
  | (args', st') => callO x.2 args' st' K

theorem callH_sound {P : Program} {f : FuncId} {x : List Rs × SemO} (h : SoundO P f x.2) {w0 : Base} {c : Cfg} {args : List V} {us : Array Value} {K : V → List Ob → Prop} (hr : Rel w0 c) (ha : RelVs c args us.toList) (hc : callH x args c.st K) :
    Calls P f us c.w fun e w' => ∃ u v c', e = .returned u ∧ c'.w = w' ∧ Rel w0 c' ∧ Ext c c' ∧ RelV c' v u ∧ K v c'.st := by
  unfold callH at hc
  obtain ⟨c1, e1, e2, g1, g2, g3⟩ := ownRs_sound x.1 args c hr
  have g4 := g3 _ ha
  split at hc
  next args' st' heq =>
  have ea : (ownRs x.1 args c.st).1 = args' := by rw [heq]
  have es : st' = c1.st := by rw [e2, heq]
  rw [ea] at g4
  rw [es] at hc
  rw [← e1]
  refine (callO_sound h g1 g4 hc).mono fun e w' hh => ?_
  obtain ⟨u, v, c', k1, k2, k3, k4, k5, k6⟩ := hh
  exact ⟨u, v, c', k1, k2, k3, g2.trans k4, k5, k6⟩

/-- A caller: contracts where there are any, else the callee's text. -/
def mkC (P : Program) (Γ : Ctx) (Δ : CtxO) (D : Caller → List Oper → List V → List Ob → St → Prop) (anns : FuncId → Ann) : Nat → Caller
  | 0, f, args, st, K => match Γ f with
    | some sem => callB sem args st K
    | none => match Δ f with
      | some x => callH x args st K
      | none => False
  | n + 1, f, args, st, K => match Γ f with
    | some sem => callB sem args st K
    | none => match Δ f with
      | some x => callH x args st K
      | none => match P.funcs[f]? with
        | some fn => execF P (mkC P Γ Δ D anns n) (D (mkC P Γ Δ D anns n)) (anns f) fn args st K
        | none => False

theorem mkC_sound {P : Program} {Γ : Ctx} (hG : SoundG P Γ) {Δ : CtxO} (hΔ : SoundGO P Δ) {D : Caller → List Oper → List V → List Ob → St → Prop} (hD : ∀ C, SoundC P C → SoundD P (D C)) {anns : FuncId → Ann} (hk : ∀ N n f fn code, P.funcs[f]? = some fn → fn.body = some code → AnnOk P (mkC P Γ Δ D anns n) (D (mkC P Γ Δ D anns n)) N (anns f) code) : ∀ n, SoundC P (mkC P Γ Δ D anns n)
  | 0 => by
    intro w0 c f args us K hr ha h
    simp only [mkC] at h
    split at h
    · next sem hs => exact callB_sound (hG f sem hs) hr ha h
    · split at h
      · next x hx => exact callH_sound (hΔ f x hx) hr ha h
      · exact h.elim
  | n + 1 => by
    intro w0 c f args us K hr ha h
    simp only [mkC] at h
    split at h
    · next sem hs => exact callB_sound (hG f sem hs) hr ha h
    · split at h
      · next x hx => exact callH_sound (hΔ f x hx) hr ha h
      · split at h
        · next fn hf => exact fn_sound (mkC_sound hG hΔ hD hk n) (hD _ (mkC_sound hG hΔ hD hk n)) hf (fun code hb => hk c.st.length n f fn code hf hb) (Nat.le_refl _) hr ha h
        · exact h.elim

end Eng
end Go.Proofs.YtkpplfghhciacaaDoor

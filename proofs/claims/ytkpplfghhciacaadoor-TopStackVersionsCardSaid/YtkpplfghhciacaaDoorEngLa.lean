/-
  Objects under new names, deep. Conditions: none.
-/
import Derived.Test.YtkpplfghhciacaaDoorEngL
set_option linter.unusedVariables false
set_option linter.unusedSimpArgs false
namespace Go.Proofs.YtkpplfghhciacaaDoor
namespace Eng
open Go.RowKit

mutual
/-- The names in a value. -/
def names : V → List Nat
  | .rc cs _ => namesL cs
  | .cl r _ => [r]
  | .el r _ _ => [r]
  | .vec r => [r]
  | .vw r _ _ => [r]
  | .agg cs => namesL cs
  | .tup cs => namesL cs
  | .fn _ a b => namesL a ++ namesL b
  | _ => []
def namesL : List V → List Nat
  | [] => []
  | v :: vs => names v ++ namesL vs
end

def namesO : Ob → List Nat
  | .cells cs => namesL cs
  | _ => []

def has (l : List Nat) (x : Nat) : Bool := match l with
  | [] => false
  | y :: r => Nat.beq y x || has r x

/-- Names that are not there yet. -/
def addN : List Nat → List Nat → List Nat
  | l, [] => l
  | l, x :: r => addN (bif has l x then l else l ++ [x]) r

/-- With all that is reached. -/
def reach (st : List Ob) : Nat → List Nat → List Nat
  | 0, l => l
  | n + 1, l => reach st n (addN l (l.flatMap fun i => namesO (st.getD i .dead)))

mutual
def renD (l : List Nat) : V → Option V
  | .any => some .any
  | .x v => some (.x v)
  | .ro t xs => some (.ro t xs)
  | .rc cs j => match renDL l cs with
    | some cs' => some (.rc cs' j)
    | none => none
  | .cl r i => match pos l r with
    | some k => some (.cl k i)
    | none => none
  | .el r i j => match pos l r with
    | some k => some (.el k i j)
    | none => none
  | .vec r => match pos l r with
    | some k => some (.vec k)
    | none => none
  | .vw r lo n => match pos l r with
    | some k => some (.vw k lo n)
    | none => none
  | .agg cs => match renDL l cs with
    | some cs' => some (.agg cs')
    | none => none
  | .tup cs => match renDL l cs with
    | some cs' => some (.tup cs')
    | none => none
  | .fn f a b => match renDL l a, renDL l b with
    | some a', some b' => some (.fn f a' b')
    | _, _ => none
  | .gd _ _ _ => none
  | .hd h => some (.hd h)
  | .pt a i => some (.pt a i)
def renDL (l : List Nat) : List V → Option (List V)
  | [] => some []
  | v :: vs => match renD l v, renDL l vs with
    | some v', some vs' => some (v' :: vs')
    | _, _ => none
end

def renO (l : List Nat) : Ob → Ob
  | .cells cs => match renDL l cs with
    | some cs' => .cells cs'
    | none => .dead
  | ob => ob

/-- The objects under new names, and what they hold. -/
def reD (c : Cfg) (g : List Nat) : Cfg :=
  { c with st := g.map (fun i => renO g (c.st.getD i .dead)), bl := fun r => match g[r]? with | some i => c.bl i | none => none }

theorem reD_st {c : Cfg} {g : List Nat} {r i : Nat} (h : g[r]? = some i) : (reD c g).st[r]? = some (renO g (c.st.getD i .dead)) := by
  simp [reD, h]

theorem reD_bl {c : Cfg} {g : List Nat} {r i : Nat} (h : g[r]? = some i) : (reD c g).bl r = c.bl i := by
  simp [reD, h]

theorem getD_of {st : List Ob} {i : Nat} {ob : Ob} (h : st[i]? = some ob) : st.getD i .dead = ob := by
  simp [List.getD, h]

mutual
theorem renD_rel {c : Cfg} {l : List Nat} : ∀ (v v' : V) (u : Value), renD l v = some v' → RelV c v u → RelV (reD c l) v' u
  | .any, v', u, h, _ => by simp only [renD, Option.some.injEq] at h; subst h; simp only [RelV]
  | .x v, v', u, h, hr => by simp only [renD, Option.some.injEq] at h; subst h; simpa only [RelV] using hr
  | .ro t xs, v', u, h, hr => by
    simp only [renD, Option.some.injEq] at h; subst h
    simp only [RelV] at *
    exact hr
  | .rc cs j, v', u, h, hr => by
    simp only [renD] at h
    split at h
    · next cs' hk =>
      cases h
      simp only [RelV] at *
      obtain ⟨b, o, e, hc⟩ := hr
      obtain ⟨us, h1, h2⟩ := RelC.list hc
      exact ⟨b, o, e, RelC.mk (renDL_rel cs cs' us hk h1) h2⟩
    · cases h
  | .cl r i, v', u, h, hr => by
    have hsh := cl_shape hr
    simp only [renD] at h
    split at h
    · next k hk =>
      cases h
      have hg := pos_get hk
      simp only [RelV] at hr ⊢
      rw [reD_st hg, reD_bl hg]
      cases hs : c.st[r]? with
      | none => rw [hs] at hr; exact hr.elim
      | some ob =>
        rw [hs] at hr
        rw [getD_of hs]
        cases ob with
        | cells cs =>
          simp only [renO]
          split
          · next e => split at e <;> cases e
          · next e => exact hr
          · exact hsh
        | _ => exact hsh
    · cases h
  | .el r i j, v', u, h, hr => by
    have hsh := el_shape hr
    simp only [renD] at h
    split at h
    · next k hk =>
      cases h
      have hg := pos_get hk
      simp only [RelV] at hr ⊢
      rw [reD_st hg, reD_bl hg]
      cases hs : c.st[r]? with
      | none => rw [hs] at hr; exact hr.elim
      | some ob =>
        rw [hs] at hr
        rw [getD_of hs]
        cases ob with
        | cells cs =>
          simp only [renO]
          split
          · next e => split at e <;> cases e
          · next e => split at e <;> cases e
          · exact hr
          · exact hsh
        | dead => exact hsh
        | pool m => exact hsh
        | vec t f xs => exact hr
    · cases h
  | .vec r, v', u, h, hr => by
    have hsh := vec_shape hr
    simp only [renD] at h
    split at h
    · next k hk =>
      cases h
      have hg := pos_get hk
      simp only [RelV] at hr ⊢
      rw [reD_st hg, reD_bl hg]
      cases hs : c.st[r]? with
      | none => rw [hs] at hr; exact hr.elim
      | some ob =>
        rw [hs] at hr
        rw [getD_of hs]
        cases ob with
        | cells cs =>
          simp only [renO]
          split
          · next e => split at e <;> cases e
          · next e => split at e <;> cases e
          · exact hsh
        | dead => exact hsh
        | pool m => exact hsh
        | vec t f xs => exact hr
    · cases h
  | .vw r lo n, v', u, h, hr => by
    have hsh := vw_shape hr
    simp only [renD] at h
    split at h
    · next k hk =>
      cases h
      have hg := pos_get hk
      simp only [RelV] at hr ⊢
      rw [reD_st hg, reD_bl hg]
      cases hs : c.st[r]? with
      | none => rw [hs] at hr; exact hr.elim
      | some ob =>
        rw [hs] at hr
        rw [getD_of hs]
        cases ob with
        | cells cs =>
          simp only [renO]
          split
          · next e => split at e <;> cases e
          · next e => split at e <;> cases e
          · exact hsh
        | dead => exact hsh
        | pool m => exact hsh
        | vec t f xs => exact hr
    · cases h
  | .agg cs, v', u, h, hr => by
    simp only [renD] at h
    split at h
    · next cs' hk =>
      cases h
      simp only [RelV] at *
      obtain ⟨us, e, h1⟩ := hr
      exact ⟨us, e, renDL_rel cs cs' _ hk h1⟩
    · cases h
  | .tup cs, v', u, h, hr => by
    simp only [renD] at h
    split at h
    · next cs' hk =>
      cases h
      simp only [RelV] at *
      obtain ⟨us, e, h1⟩ := hr
      exact ⟨us, e, renDL_rel cs cs' _ hk h1⟩
    · cases h
  | .fn f a b, v', u, h, hr => by
    simp only [renD] at h
    split at h
    · next a' b' ha hb =>
      cases h
      simp only [RelV] at *
      obtain ⟨us1, us2, e, h1, h2⟩ := hr
      exact ⟨us1, us2, e, renDL_rel a a' _ ha h1, renDL_rel b b' _ hb h2⟩
    · cases h
  | .gd _ _ _, v', u, h, _ => by simp [renD] at h
  | .hd x, v', u, h, hr => by simp only [renD, Option.some.injEq] at h; subst h; simpa only [RelV] using hr
  | .pt a i, v', u, h, hr => by simp only [renD, Option.some.injEq] at h; subst h; simpa only [RelV] using hr
theorem renDL_rel {c : Cfg} {l : List Nat} : ∀ (vs vs' : List V) (us : List Value), renDL l vs = some vs' → RelVs c vs us → RelVs (reD c l) vs' us
  | [], vs', us, h, hr => by simp only [renDL, Option.some.injEq] at h; subst h; simpa only [RelVs] using hr
  | v :: vs, vs', us, h, hr => by
    simp only [renDL] at h
    split at h
    · next v1 vs1 e1 e2 =>
      cases h
      simp only [RelVs] at *
      obtain ⟨u, us', e, h1, h2⟩ := hr
      exact ⟨u, us', e, renD_rel v v1 u e1 h1, renDL_rel vs vs1 us' e2 h2⟩
    · cases h
end

theorem live_ren {g : List Nat} {ob : Ob} (h : renO g ob ≠ .dead) : ob ≠ .dead := by
  rintro rfl
  exact h rfl

theorem reD_live {c : Cfg} {g : List Nat} {r : Nat} (h : live (reD c g).st r) : ∃ i, g[r]? = some i ∧ live c.st i ∧ (reD c g).bl r = c.bl i := by
  obtain ⟨ob, h1, h2⟩ := live_of' h
  cases hg : g[r]? with
  | none => simp [reD, hg] at h1
  | some i =>
    rw [reD_st hg] at h1
    simp only [Option.some.injEq] at h1
    have h3 := live_ren (h1 ▸ h2)
    cases hs : c.st[i]? with
    | none => simp [List.getD, hs] at h3
    | some ob' =>
      rw [getD_of hs] at h3
      exact ⟨i, rfl, live_of hs h3, reD_bl hg⟩

theorem reD_obj {c : Cfg} {g : List Nat} (hobj : ∀ r ob, c.st[r]? = some ob → OkOb c r ob) : ∀ r ob, (reD c g).st[r]? = some ob → OkOb (reD c g) r ob := by
  intro r ob h
  cases hg : g[r]? with
  | none => simp [reD, hg] at h
  | some i =>
    rw [reD_st hg] at h
    simp only [Option.some.injEq] at h
    subst h
    cases hs : c.st[i]? with
    | none => simp [List.getD, hs, renO, OkOb]
    | some ob' =>
      rw [getD_of hs]
      have ho := hobj i _ hs
      cases ob' with
      | dead => trivial
      | cells cs =>
        simp only [renO]
        split
        · next cs' hk =>
          obtain ⟨b, ce, e, h1, h2, h3, h4⟩ := ho
          exact ⟨b, ce, e, by rw [reD_bl hg]; exact h1, h2, renDL_rel cs cs' _ hk h3, h4⟩
        · trivial
      | vec t f xs =>
        obtain ⟨h1, h2, h3⟩ := ho
        refine ⟨h1, h2, ?_⟩
        rw [reD_bl hg]
        exact h3
      | pool m => exact (reD_bl hg).trans ho

theorem reD_rel {w0 : Base} {c : Cfg} (hr : Rel w0 c) {g : List Nat} (hd : distinct g = true) : Rel w0 (reD c g) where
  below := hr.below
  inj := fun r r' b h h' hb hb' => by
    obtain ⟨i, g1, g2, g3⟩ := reD_live h
    obtain ⟨i', k1, k2, k3⟩ := reD_live h'
    have := hr.inj i i' b g2 k2 (g3 ▸ hb) (k3 ▸ hb')
    subst this
    exact distinct_inj hd g1 k1
  fresh := fun r b h hb => by
    obtain ⟨i, g1, g2, g3⟩ := reD_live h
    exact hr.fresh i b g2 (g3 ▸ hb)
  bound := hr.bound
  newA := hr.newA
  obj := reD_obj hr.obj
  pl := PoolOk.ren hr.pl rfl (fun _ _ h => h) hd (fun r m h => by
      cases hg : g[r]? with
      | none => simp [reD, hg] at h
      | some i =>
        rw [reD_st hg] at h
        refine ⟨i, rfl, ?_⟩
        cases hs : c.st[i]? with
        | none => simp [List.getD, hs, renO] at h
        | some ob' =>
          rw [getD_of hs] at h
          cases ob' with
          | cells cs => simp only [renO] at h; split at h <;> cases h
          | dead => cases h
          | vec t f xs => cases h
          | pool m' => exact h) (fun r b h hb => by
      obtain ⟨i, _, g2, g3⟩ := reD_live h
      exact ⟨i, g2, g3 ▸ hb⟩)

theorem renO_cells {g : List Nat} {ob : Ob} {cs : List V} (h : renO g ob = .cells cs) : ∃ cs', ob = .cells cs' := by
  cases ob with
  | cells cs' => exact ⟨cs', rfl⟩
  | dead => cases h
  | vec t f xs => cases h
  | pool m => cases h

theorem renO_vec {g : List Nat} {ob : Ob} {t : Ty} {f : Nat} {xs : List t.den} (h : renO g ob = .vec t f xs) : ob = .vec t f xs := by
  cases ob with
  | cells cs' =>
    simp only [renO] at h
    split at h <;> cases h
  | dead => cases h
  | pool m => cases h
  | vec t f xs => exact h

theorem renO_pool {g : List Nat} {ob : Ob} {m : Pool} (h : renO g ob = .pool m) : ob = .pool m := by
  cases ob with
  | cells cs' =>
    simp only [renO] at h
    split at h <;> cases h
  | dead => cases h
  | vec t f xs => cases h
  | pool m' => exact h

theorem reD_ext {cb c : Cfg} (hx : Ext cb c) {g : List Nat} (hg : ∀ r, r < cb.st.length → g[r]? = some r) : Ext cb (reD c g) where
  size := hx.size
  sub := hx.sub
  cells := hx.cells
  len := by
    simp only [reD, List.length_map]
    rcases Nat.eq_zero_or_pos cb.st.length with h | h
    · omega
    · have := hg (cb.st.length - 1) (by omega)
      have := (List.getElem?_eq_some_iff.1 this).1
      omega
  keep := fun r ob hr h => by
    rw [reD_st (hg r hr)] at h
    have hl := hx.len
    have hs : c.st[r]? = some (c.st[r]'(by omega)) := List.getElem?_eq_getElem (by omega)
    rw [getD_of hs] at h
    simp only [Option.some.injEq] at h
    have hk := hx.keep r _ hr hs
    cases ob with
    | dead => trivial
    | cells cs =>
      obtain ⟨cs', e⟩ := renO_cells h
      rw [e] at hk
      exact ⟨hk.1, by rw [reD_bl (hg r hr)]; exact hk.2⟩
    | vec t f xs =>
      have e := renO_vec h
      rw [e] at hk
      obtain ⟨f0, xs0, h1, h2, h3, h4⟩ := hk
      exact ⟨f0, xs0, h1, h2, by rw [reD_bl (hg r hr)]; exact h3, h4⟩
    | pool m =>
      have e := renO_pool h
      rw [e] at hk
      exact hk

end Eng
end Go.Proofs.YtkpplfghhciacaaDoor

/-
  Loops: the objects of a loop's head are named anew each round. Conditions: none.
-/
import Derived.Test.YtkpplfghhciacaaDoorEngKb
set_option linter.unusedVariables false
set_option linter.unusedSimpArgs false
namespace Go.Proofs.YtkpplfghhciacaaDoor
namespace Eng
open Go.RowKit

mutual
def okRef (g : List Nat) : V → Bool
  | .rc cs _ => okRefs g cs
  | .cl r _ => (match g[r]? with | some k => Nat.beq k r | none => false)
  | .el r _ _ => (match g[r]? with | some k => Nat.beq k r | none => false)
  | .vec r => (match g[r]? with | some k => Nat.beq k r | none => false)
  | .vw r _ _ => (match g[r]? with | some k => Nat.beq k r | none => false)
  | .agg cs => okRefs g cs
  | .tup cs => okRefs g cs
  | .fn _ a b => okRefs g a && okRefs g b
  | _ => true
def okRefs (g : List Nat) : List V → Bool
  | [] => true
  | v :: vs => okRef g v && okRefs g vs
end

/-- The objects under new names: object r is what was object g[r]. -/
def reC (c : Cfg) (g : List Nat) : Cfg :=
  { c with st := g.map (fun i => c.st.getD i .dead), bl := fun r => match g[r]? with | some i => c.bl i | none => none }

theorem okRef_num {g : List Nat} {r : Nat} (h : (match g[r]? with | some k => Nat.beq k r | none => false) = true) : g[r]? = some r := by
  split at h
  · next k e => rw [e, Nat.eq_of_beq_eq_true h]
  · cases h

theorem reC_st {c : Cfg} {g : List Nat} {r i : Nat} (h : g[r]? = some i) : (reC c g).st[r]? = some (c.st.getD i .dead) := by
  simp [reC, h]

theorem reC_bl {c : Cfg} {g : List Nat} {r i : Nat} (h : g[r]? = some i) : (reC c g).bl r = c.bl i := by
  simp [reC, h]

mutual
theorem RelV.re {c : Cfg} {g : List Nat} : ∀ (v : V) (u : Value), okRef g v = true → RelV c v u → RelV (reC c g) v u
  | .any, _, _, _ => by simp only [RelV]
  | .x v, u, _, h => by simpa only [RelV] using h
  | .ro t xs, u, _, h => by simp only [RelV] at *; exact h
  | .rc cs j, u, hk, h => by
    simp only [okRef] at hk
    simp only [RelV] at *
    obtain ⟨b, o, e, hc⟩ := h
    exact ⟨b, o, e, RelC.re cs b o hk hc⟩
  | .cl r i, u, hk, h => by
    have hsh := cl_shape h
    simp only [okRef] at hk
    have hg := okRef_num hk
    simp only [RelV] at *
    rw [reC_st hg]
    cases hs : c.st[r]? with
    | none => rw [hs] at h; exact h.elim
    | some ob =>
      rw [hs] at h
      simp only [List.getD_eq_getElem?_getD, hs, Option.getD_some]
      cases ob with
      | cells cs =>
        obtain ⟨b, hb, e⟩ := h
        exact ⟨b, by rw [reC_bl hg]; exact hb, e⟩
      | _ => exact hsh
  | .el r i j, u, hk, h => by
    have hsh := el_shape h
    simp only [okRef] at hk
    have hg := okRef_num hk
    simp only [RelV] at *
    rw [reC_st hg]
    cases hs : c.st[r]? with
    | none => rw [hs] at h; exact h.elim
    | some ob =>
      rw [hs] at h
      simp only [List.getD_eq_getElem?_getD, hs, Option.getD_some]
      cases ob with
      | vec t f xs =>
        obtain ⟨b, hb, e, hi⟩ := h
        exact ⟨b, by rw [reC_bl hg]; exact hb, e, hi⟩
      | cells cs =>
        obtain ⟨b, hb, e⟩ := h
        exact ⟨b, by rw [reC_bl hg]; exact hb, e⟩
      | _ => exact hsh
  | .vec r, u, hk, h => by
    have hsh := vec_shape h
    simp only [okRef] at hk
    have hg := okRef_num hk
    simp only [RelV] at *
    rw [reC_st hg]
    cases hs : c.st[r]? with
    | none => rw [hs] at h; exact h.elim
    | some ob =>
      rw [hs] at h
      simp only [List.getD_eq_getElem?_getD, hs, Option.getD_some]
      cases ob with
      | vec t f xs => rw [reC_bl hg]; exact h
      | _ => exact hsh
  | .vw r lo n, u, hk, h => by
    have hsh := vw_shape h
    simp only [okRef] at hk
    have hg := okRef_num hk
    simp only [RelV] at *
    rw [reC_st hg]
    cases hs : c.st[r]? with
    | none => rw [hs] at h; exact h.elim
    | some ob =>
      rw [hs] at h
      simp only [List.getD_eq_getElem?_getD, hs, Option.getD_some]
      cases ob with
      | vec t f xs => rw [reC_bl hg]; exact h
      | _ => exact hsh
  | .agg vs, u, hk, h => by
    simp only [okRef] at hk
    simp only [RelV] at *
    obtain ⟨us, e, hc⟩ := h
    exact ⟨us, e, RelVs.re vs _ hk hc⟩
  | .tup vs, u, hk, h => by
    simp only [okRef] at hk
    simp only [RelV] at *
    obtain ⟨us, e, hc⟩ := h
    exact ⟨us, e, RelVs.re vs _ hk hc⟩
  | .fn f a b, u, hk, h => by
    simp only [okRef, Bool.and_eq_true] at hk
    simp only [RelV] at *
    obtain ⟨us1, us2, e, h1, h2⟩ := h
    exact ⟨us1, us2, e, RelVs.re a _ hk.1 h1, RelVs.re b _ hk.2 h2⟩
  | .gd _ _ _, _, _, _ => by simp only [RelV]
  | .hd _, _, _, h => by simpa only [RelV] using h
  | .pt _ _, _, _, h => by simpa only [RelV] using h
theorem RelVs.re {c : Cfg} {g : List Nat} : ∀ (vs : List V) (us : List Value), okRefs g vs = true → RelVs c vs us → RelVs (reC c g) vs us
  | [], _, _, h => by simpa only [RelVs] using h
  | v :: vs, us, hk, h => by
    simp only [okRefs, Bool.and_eq_true] at hk
    simp only [RelVs] at *
    obtain ⟨u, us', e, h1, h2⟩ := h
    exact ⟨u, us', e, RelV.re v u hk.1 h1, RelVs.re vs us' hk.2 h2⟩
theorem RelC.re {c : Cfg} {g : List Nat} : ∀ (vs : List V) (b o : Nat), okRefs g vs = true → RelC c vs b o → RelC (reC c g) vs b o
  | [], _, _, _, _ => by simp only [RelC]
  | v :: vs, b, o, hk, h => by
    simp only [okRefs, Bool.and_eq_true] at hk
    simp only [RelC] at *
    obtain ⟨⟨u, h1, h2, h3⟩, h4⟩ := h
    exact ⟨⟨u, h1, h2, RelV.re v u hk.1 h3⟩, RelC.re vs b (o + 1) hk.2 h4⟩
end

def okObs (g : List Nat) : List Ob → Bool
  | [] => true
  | .cells cs :: r => okRefs g cs && okObs g r
  | _ :: r => okObs g r

theorem okObs_get {g : List Nat} : ∀ {l : List Ob} {r : Nat} {cs : List V}, okObs g l = true → l[r]? = some (.cells cs) → okRefs g cs = true
  | [], r, cs, _, h => by simp at h
  | ob :: l, 0, cs, hk, h => by
    simp only [List.getElem?_cons_zero, Option.some.injEq] at h
    subst h
    simp only [okObs, Bool.and_eq_true] at hk
    exact hk.1
  | ob :: l, r + 1, cs, hk, h => by
    simp only [List.getElem?_cons_succ] at h
    cases ob with
    | cells cs' =>
      simp only [okObs, Bool.and_eq_true] at hk
      exact okObs_get hk.2 h
    | _ =>
      simp only [okObs] at hk
      exact okObs_get hk h

def distinct : List Nat → Bool
  | [] => true
  | x :: r => !(r.contains x) && distinct r

theorem distinct_inj : ∀ {g : List Nat} {r r' i : Nat}, distinct g = true → g[r]? = some i → g[r']? = some i → r = r'
  | [], r, r', i, _, h, _ => by simp at h
  | x :: g, 0, 0, i, _, _, _ => rfl
  | x :: g, 0, r' + 1, i, hd, h, h' => by
    simp only [distinct, Bool.and_eq_true, Bool.not_eq_true'] at hd
    simp only [List.getElem?_cons_zero, Option.some.injEq, List.getElem?_cons_succ] at h h'
    subst h
    have := List.mem_of_getElem? h'
    simp at hd
    exact absurd this hd.1
  | x :: g, r + 1, 0, i, hd, h, h' => by
    simp only [distinct, Bool.and_eq_true, Bool.not_eq_true'] at hd
    simp only [List.getElem?_cons_zero, Option.some.injEq, List.getElem?_cons_succ] at h h'
    subst h'
    have := List.mem_of_getElem? h
    simp at hd
    exact absurd this hd.1
  | x :: g, r + 1, r' + 1, i, hd, h, h' => by
    simp only [distinct, Bool.and_eq_true] at hd
    simp only [List.getElem?_cons_succ] at h h'
    rw [distinct_inj hd.2 h h']

theorem live_of' {st : List Ob} {r : Nat} (h : live st r) : ∃ ob, st[r]? = some ob ∧ ob ≠ .dead := by
  have hlt := live_lt h
  refine ⟨st[r], List.getElem?_eq_getElem hlt, fun e => ?_⟩
  unfold live at h
  rw [List.getElem?_eq_getElem hlt, e] at h
  exact h

/-- The pool under another name. -/
theorem PoolOk.ren {w0 : Base} {c c' : Cfg} (h : PoolOk w0 c) (hw : c'.w = c.w) (hA : ∀ b o, c'.A b o → c.A b o) {g : List Nat} (hd : distinct g = true)
    (hst : ∀ (r : Nat) (m : Pool), c'.st[r]? = some (Ob.pool m) → ∃ i, g[r]? = some i ∧ c.st[i]? = some (Ob.pool m))
    (hbl : ∀ r b, live c'.st r → c'.bl r = some b → ∃ i, live c.st i ∧ c.bl i = some b) : PoolOk w0 c' := by
  refine ⟨fun r r' m m' h1 h2 => ?_, fun r m hm => ?_⟩
  · obtain ⟨i, g1, g2⟩ := hst r m h1
    obtain ⟨i', k1, k2⟩ := hst r' m' h2
    have := h.1 i i' m m' g2 k2
    subst this
    exact distinct_inj hd g1 k1
  · obtain ⟨i, g1, g2⟩ := hst r m hm
    obtain ⟨hn, hp⟩ := h.2 i m g2
    refine ⟨hn, fun b row hb => ?_⟩
    obtain ⟨h1, h2, h3, ce, e, h4, h5⟩ := hp b row hb
    refine ⟨h1, fun r0 k1 k2 => ?_, fun o k => h3 o (hA b o k), ce, e, by rw [hw]; exact h4, h5⟩
    obtain ⟨i0, q1, q2⟩ := hbl r0 b k1 k2
    exact h2 i0 q1 q2

theorem re_rel {w0 : Base} {c : Cfg} (hr : Rel w0 c) {g : List Nat} (hd : distinct g = true) (hk : okObs g (reC c g).st = true) : Rel w0 (reC c g) := by
  have hlive : ∀ r b, live (reC c g).st r → (reC c g).bl r = some b → ∃ i, g[r]? = some i ∧ live c.st i ∧ c.bl i = some b := by
    intro r b h hb
    obtain ⟨ob, h1, h2⟩ := live_of' h
    cases hg : g[r]? with
    | none => simp [reC, hg] at h1
    | some i =>
      rw [reC_st hg] at h1
      rw [reC_bl hg] at hb
      refine ⟨i, rfl, ?_, hb⟩
      cases hs : c.st[i]? with
      | none => simp [List.getD, hs] at h1; exact absurd h1.symm h2
      | some ob' =>
        simp only [List.getD_eq_getElem?_getD, hs, Option.getD_some, Option.some.injEq] at h1
        exact live_of hs (by rw [h1]; exact h2)
  exact {
    below := hr.below
    inj := fun r r' b h h' hb hb' => by
      obtain ⟨i, g1, g2, g3⟩ := hlive r b h hb
      obtain ⟨i', k1, k2, k3⟩ := hlive r' b h' hb'
      have := hr.inj i i' b g2 k2 g3 k3
      subst this
      exact distinct_inj hd g1 k1
    fresh := fun r b h hb => by
      obtain ⟨i, g1, g2, g3⟩ := hlive r b h hb
      exact hr.fresh i b g2 g3
    pl := PoolOk.ren hr.pl rfl (fun _ _ h => h) hd (fun r m h => by
        cases hg : g[r]? with
        | none => simp [reC, hg] at h
        | some i =>
          rw [reC_st hg] at h
          refine ⟨i, rfl, ?_⟩
          cases hs : c.st[i]? with
          | none => simp [List.getD, hs] at h
          | some ob' => simpa [List.getD_eq_getElem?_getD, hs] using h) (fun r b h hb => by
        obtain ⟨i, _, g2, g3⟩ := hlive r b h hb
        exact ⟨i, g2, g3⟩)
    bound := hr.bound
    newA := hr.newA
    obj := fun r ob h => by
      cases hg : g[r]? with
      | none => simp [reC, hg] at h
      | some i =>
        have h0 := h
        rw [reC_st hg] at h
        cases hs : c.st[i]? with
        | none => simp [List.getD, hs] at h; subst h; trivial
        | some ob' =>
          simp only [List.getD_eq_getElem?_getD, hs, Option.getD_some, Option.some.injEq] at h
          subst h
          have ho := hr.obj i _ hs
          cases ob' with
          | dead => trivial
          | cells cs =>
            obtain ⟨b, ce, e, h1, h2, h3, h4⟩ := ho
            exact ⟨b, ce, e, by rw [reC_bl hg]; exact h1, h2, RelVs.re cs _ (okObs_get hk h0) h3, h4⟩
          | vec t f xs =>
            obtain ⟨h1, h2, h3⟩ := ho
            refine ⟨h1, h2, ?_⟩
            rw [reC_bl hg]
            exact h3
          | pool m => exact (reC_bl hg).trans ho }

theorem re_ext {cb c : Cfg} (hx : Ext cb c) {g : List Nat} (hg : ∀ r, r < cb.st.length → g[r]? = some r) : Ext cb (reC c g) where
  size := hx.size
  sub := hx.sub
  cells := hx.cells
  len := by
    simp only [reC, List.length_map]
    rcases Nat.eq_zero_or_pos cb.st.length with h | h
    · omega
    · have := hg (cb.st.length - 1) (by omega)
      have := (List.getElem?_eq_some_iff.1 this).1
      omega
  keep := fun r ob hr h => by
    rw [reC_st (hg r hr)] at h
    have hl := hx.len
    have hs : c.st[r]? = some (c.st[r]'(by omega)) := List.getElem?_eq_getElem (by omega)
    simp only [List.getD_eq_getElem?_getD, hs, Option.getD_some, Option.some.injEq] at h
    have hk := hx.keep r _ hr hs
    rw [h] at hk
    cases ob with
    | dead => trivial
    | cells cs => exact ⟨hk.1, by rw [reC_bl (hg r hr)]; exact hk.2⟩
    | vec t f xs =>
      obtain ⟨f0, xs0, h1, h2, h3, h4⟩ := hk
      exact ⟨f0, xs0, h1, h2, by rw [reC_bl (hg r hr)]; exact h3, h4⟩
    | pool m => exact hk

/-- A row under a new name. -/
def mvC (c : Cfg) (ρ : Nat) (ob : Ob) : Cfg :=
  { c with st := c.st.set ρ .dead ++ [ob], bl := fun r => if r = c.st.length then c.bl ρ else c.bl r }

theorem mv_rel {w0 : Base} {c : Cfg} (hr : Rel w0 c) {ρ : Nat} {t : Ty} {f : Nat} {xs : List t.den} (hs : c.st[ρ]? = some (.vec t f xs)) :
    Rel w0 (mvC c ρ (.vec t f xs)) ∧ Ext c (mvC c ρ (.vec t f xs)) ∧ ∀ u, RelV c (.vec ρ) u → RelV (mvC c ρ (.vec t f xs)) (.vec c.st.length) u := by
  have hl := live_of hs (by simp)
  obtain ⟨hk1, hk2⟩ := kill_rel hr ρ
  have hblr : ∀ r, r < c.st.length → (mvC c ρ (.vec t f xs)).bl r = c.bl r := fun r h => by simp only [mvC]; rw [if_neg (by omega)]
  have hbln : (mvC c ρ (.vec t f xs)).bl c.st.length = c.bl ρ := by simp [mvC]
  have hx2 : Ext (killC c ρ) (mvC c ρ (.vec t f xs)) := {
    size := Nat.le_refl _
    sub := fun _ _ h => h
    cells := fun _ _ _ => rfl
    len := by simp [mvC, killC]
    keep := fun r ob' hrl h => by
      simp only [killC, List.length_set] at hrl
      simp only [mvC] at h
      rw [List.getElem?_append_left (by simpa using hrl)] at h
      cases ob' with
      | dead => trivial
      | cells cs => exact ⟨⟨cs, h⟩, hblr r hrl⟩
      | pool m => exact ⟨m, h⟩
      | vec t f xs => exact ⟨f, xs, h, rfl, hblr r hrl, fun _ _ _ h => h⟩ }
  have hx : Ext c (mvC c ρ (.vec t f xs)) := hk2.trans hx2
  have hlive : ∀ r, live (mvC c ρ (.vec t f xs)).st r → (r < c.st.length ∧ r ≠ ρ ∧ live c.st r ∧ (mvC c ρ (.vec t f xs)).bl r = c.bl r) ∨ (r = c.st.length ∧ (mvC c ρ (.vec t f xs)).bl r = c.bl ρ) := by
    intro r h
    have h1 := live_lt h
    simp only [mvC, List.length_append, List.length_set, List.length_singleton] at h1
    rcases Nat.lt_or_ge r c.st.length with g | g
    · obtain ⟨ob, h2, h3⟩ := live_of' h
      simp only [mvC] at h2
      rw [List.getElem?_append_left (by simpa using g), List.getElem?_set] at h2
      split at h2
      · simp [show ρ < c.st.length from live_lt hl] at h2
        exact absurd h2.symm h3
      · next hne => exact .inl ⟨g, fun e => hne e.symm, live_of h2 h3, hblr r g⟩
    · obtain rfl : r = c.st.length := by omega
      exact .inr ⟨rfl, hbln⟩
  refine ⟨?_, hx, ?_⟩
  · exact {
      below := hr.below
      inj := fun r r' b h h' hb hb' => by
        rcases hlive r h with ⟨g, gne, g1, g2⟩ | ⟨g, g2⟩ <;> rcases hlive r' h' with ⟨k, kne, k1, k2⟩ | ⟨k, k2⟩
        · exact hr.inj r r' b g1 k1 (g2 ▸ hb) (k2 ▸ hb')
        · exact absurd (hr.inj r ρ b g1 hl (g2 ▸ hb) (k2 ▸ hb')) gne
        · exact absurd (hr.inj r' ρ b k1 hl (k2 ▸ hb') (g2 ▸ hb)) kne
        · omega
      fresh := fun r b h hb => by
        rcases hlive r h with ⟨g, _, g1, g2⟩ | ⟨g, g2⟩
        · exact hr.fresh r b g1 (g2 ▸ hb)
        · exact hr.fresh ρ b hl (g2 ▸ hb)
      pl := PoolOk.keep hr.pl (fun r m h => by
          simp only [mvC] at h
          rcases get_push h with ⟨_, h1⟩ | ⟨_, h1⟩
          · rw [List.getElem?_set] at h1
            split at h1
            · split at h1 <;> cases h1
            · exact h1
          · cases h1) (fun r b h hb => by
          rcases hlive r h with ⟨g, _, g1, g2⟩ | ⟨g, g2⟩
          · exact .inl ⟨r, g1, g2 ▸ hb⟩
          · exact .inl ⟨ρ, hl, g2 ▸ hb⟩) (fun _ _ h => .inl h) (fun _ _ _ _ => rfl)
      bound := hr.bound
      newA := hr.newA
      obj := fun r ob' h => by
        simp only [mvC] at h
        rcases get_push h with ⟨g, h1⟩ | ⟨rfl, rfl⟩
        · have hob := hk1.obj r ob' h1
          simp only [List.length_set] at g
          exact OkOb.keep hx2 (hblr r g) (fun _ _ => rfl) (fun _ _ _ h => h) hob
        · have hob := hr.obj ρ _ hs
          obtain ⟨h1, h2, h3⟩ := hob
          refine ⟨h1, h2, ?_⟩
          simp only [List.length_set]
          rw [hbln]
          exact h3 }
  · intro u hu
    simp only [RelV, hs] at hu
    simp only [RelV]
    have hst : (mvC c ρ (.vec t f xs)).st[c.st.length]? = some (.vec t f xs) := by
      simp only [mvC]
      rw [List.getElem?_append_right (by simp)]
      simp
    rw [hst, hbln]
    exact hu

theorem mv_any {w0 : Base} {c : Cfg} (hr : Rel w0 c) {ρ : Nat} {t : Ty} {f f' : Nat} {xs ys : List t.den} (hs : c.st[ρ]? = some (.vec t f xs)) (hy : OkOb c ρ (.vec t f' ys)) :
    Rel w0 (mvC c ρ (.vec t f' ys)) ∧ Ext c (mvC c ρ (.vec t f' ys)) ∧ (mvC c ρ (.vec t f' ys)).st[c.st.length]? = some (.vec t f' ys) ∧ (mvC c ρ (.vec t f' ys)).bl c.st.length = c.bl ρ := by
  have hl := live_of hs (by simp)
  obtain ⟨hk1, hk2⟩ := kill_rel hr ρ
  have hblr : ∀ r, r < c.st.length → (mvC c ρ (.vec t f' ys)).bl r = c.bl r := fun r h => by simp only [mvC]; rw [if_neg (by omega)]
  have hbln : (mvC c ρ (.vec t f' ys)).bl c.st.length = c.bl ρ := by simp [mvC]
  have hx2 : Ext (killC c ρ) (mvC c ρ (.vec t f' ys)) := {
    size := Nat.le_refl _
    sub := fun _ _ h => h
    cells := fun _ _ _ => rfl
    len := by simp [mvC, killC]
    keep := fun r ob' hrl h => by
      simp only [killC, List.length_set] at hrl
      simp only [mvC] at h
      rw [List.getElem?_append_left (by simpa using hrl)] at h
      cases ob' with
      | dead => trivial
      | cells cs => exact ⟨⟨cs, h⟩, hblr r hrl⟩
      | pool m => exact ⟨m, h⟩
      | vec t f xs => exact ⟨f, xs, h, rfl, hblr r hrl, fun _ _ _ h => h⟩ }
  have hx : Ext c (mvC c ρ (.vec t f' ys)) := hk2.trans hx2
  have hlive : ∀ r, live (mvC c ρ (.vec t f' ys)).st r → (r < c.st.length ∧ r ≠ ρ ∧ live c.st r ∧ (mvC c ρ (.vec t f' ys)).bl r = c.bl r) ∨ (r = c.st.length ∧ (mvC c ρ (.vec t f' ys)).bl r = c.bl ρ) := by
    intro r h
    have h1 := live_lt h
    simp only [mvC, List.length_append, List.length_set, List.length_singleton] at h1
    rcases Nat.lt_or_ge r c.st.length with g | g
    · obtain ⟨ob, h2, h3⟩ := live_of' h
      simp only [mvC] at h2
      rw [List.getElem?_append_left (by simpa using g), List.getElem?_set] at h2
      split at h2
      · simp [show ρ < c.st.length from live_lt hl] at h2
        exact absurd h2.symm h3
      · next hne => exact .inl ⟨g, fun e => hne e.symm, live_of h2 h3, hblr r g⟩
    · obtain rfl : r = c.st.length := by omega
      exact .inr ⟨rfl, hbln⟩
  refine ⟨?_, hx, ?_⟩
  · exact {
      below := hr.below
      inj := fun r r' b h h' hb hb' => by
        rcases hlive r h with ⟨g, gne, g1, g2⟩ | ⟨g, g2⟩ <;> rcases hlive r' h' with ⟨k, kne, k1, k2⟩ | ⟨k, k2⟩
        · exact hr.inj r r' b g1 k1 (g2 ▸ hb) (k2 ▸ hb')
        · exact absurd (hr.inj r ρ b g1 hl (g2 ▸ hb) (k2 ▸ hb')) gne
        · exact absurd (hr.inj r' ρ b k1 hl (k2 ▸ hb') (g2 ▸ hb)) kne
        · omega
      fresh := fun r b h hb => by
        rcases hlive r h with ⟨g, _, g1, g2⟩ | ⟨g, g2⟩
        · exact hr.fresh r b g1 (g2 ▸ hb)
        · exact hr.fresh ρ b hl (g2 ▸ hb)
      pl := PoolOk.keep hr.pl (fun r m h => by
          simp only [mvC] at h
          rcases get_push h with ⟨_, h1⟩ | ⟨_, h1⟩
          · rw [List.getElem?_set] at h1
            split at h1
            · split at h1 <;> cases h1
            · exact h1
          · cases h1) (fun r b h hb => by
          rcases hlive r h with ⟨g, _, g1, g2⟩ | ⟨g, g2⟩
          · exact .inl ⟨r, g1, g2 ▸ hb⟩
          · exact .inl ⟨ρ, hl, g2 ▸ hb⟩) (fun _ _ h => .inl h) (fun _ _ _ _ => rfl)
      bound := hr.bound
      newA := hr.newA
      obj := fun r ob' h => by
        simp only [mvC] at h
        rcases get_push h with ⟨g, h1⟩ | ⟨rfl, rfl⟩
        · have hob := hk1.obj r ob' h1
          simp only [List.length_set] at g
          exact OkOb.keep hx2 (hblr r g) (fun _ _ => rfl) (fun _ _ _ h => h) hob
        · have hob := hy
          obtain ⟨h1, h2, h3⟩ := hob
          refine ⟨h1, h2, ?_⟩
          simp only [List.length_set]
          rw [hbln]
          exact h3 }
  · refine ⟨?_, hbln⟩
    simp only [mvC]
    rw [List.getElem?_append_right (by simp)]
    simp

/-- The beginning of a row, as a row. -/
theorem vw_mv {w0 : Base} {c : Cfg} (hr : Rel w0 c) {ρ : Nat} {t : Ty} {xs : List t.den} (hs : c.st[ρ]? = some (.vec t 0 xs)) (n : Nat) :
    Rel w0 (mvC c ρ (.vec t 0 (xs.take n))) ∧ Ext c (mvC c ρ (.vec t 0 (xs.take n))) ∧ ∀ u, RelV c (.vw ρ 0 n) u → RelV (mvC c ρ (.vec t 0 (xs.take n))) (.vec c.st.length) u := by
  have hy : OkOb c ρ (.vec t 0 (xs.take n)) := by
    obtain ⟨h1, _, ⟨h2, rfl⟩ | ⟨b, ce, e, cap, h2, h3, h4, h5, h6, h7⟩⟩ := hr.obj ρ _ hs
    · exact ⟨h1, by omega, .inl ⟨h2, by simp⟩⟩
    · refine ⟨h1, by omega, .inr ⟨b, ce, e, cap, h2, h3, h4, by rw [List.length_take]; omega, fun i y hy => ?_, h7⟩⟩
      rw [List.getElem?_take] at hy
      split at hy
      · exact h6 i y hy
      · cases hy
  obtain ⟨g1, g2, g3, g4⟩ := mv_any hr hs hy
  refine ⟨g1, g2, fun u hu => ?_⟩
  simp only [RelV, hs] at hu
  simp only [RelV, g3, g4]
  obtain ⟨hlo, ⟨h1, h2⟩ | ⟨b, cap, h1, h2, h3, h4⟩ | ⟨_, h, _⟩⟩ := hu
  · exact .inl ⟨h1, h2⟩
  · refine .inr ⟨b, cap, h1, ?_, ?_⟩
    · rw [List.length_take, Nat.min_eq_left (by omega), h2, Nat.zero_mul]
    · rw [Nat.zero_add] at h4; exact h4
  · omega

/-- The rows in a result. -/
def pos (l : List Nat) (x : Nat) : Option Nat := match l with
  | [] => none
  | y :: r => if y = x then some 0 else match pos r x with
    | some k => some (k + 1)
    | none => none

theorem pos_get : ∀ {l : List Nat} {x k : Nat}, pos l x = some k → l[k]? = some x
  | [], x, k, h => by simp [pos] at h
  | y :: r, x, k, h => by
    simp only [pos] at h
    split at h
    · next e => cases h; simp [e]
    · split at h
      · next k' hk =>
        cases h
        simpa using pos_get hk
      · cases h

mutual
def vrefs : V → List Nat
  | .vec r => [r]
  | .vw r _ _ => [r]
  | .agg cs => vrefsL cs
  | .tup cs => vrefsL cs
  | _ => []
def vrefsL : List V → List Nat
  | [] => []
  | v :: vs => vrefs v ++ vrefsL vs
end

mutual
def ren (l : List Nat) : V → Option V
  | .x v => some (.x v)
  | .ro t xs => some (.ro t xs)
  | .rc cs j => if okRefs [] cs = true then some (.rc cs j) else none
  | .fn f a b => match renL l a, renL l b with
    | some a', some b' => some (.fn f a' b')
    | _, _ => none
  | .vec r => match pos l r with
    | some k => some (.vec k)
    | none => none
  | .vw r lo n => match pos l r with
    | some k => some (.vw k lo n)
    | none => none
  | .agg cs => match renL l cs with
    | some cs' => some (.agg cs')
    | none => none
  | .tup cs => match renL l cs with
    | some cs' => some (.tup cs')
    | none => none
  | .cl r i => match pos l r with
    | some k => some (.cl k i)
    | none => none
  | .any => some .any
  | .hd h => some (.hd h)
  | .pt a i => some (.pt a i)
  | _ => none
def renL (l : List Nat) : List V → Option (List V)
  | [] => some []
  | v :: vs => match ren l v, renL l vs with
    | some v', some vs' => some (v' :: vs')
    | _, _ => none
end

mutual
theorem okRef_nil (g : List Nat) : ∀ (v : V), okRef [] v = true → okRef g v = true
  | .any, _ | .x _, _ | .ro _ _, _ | .gd _ _ _, _ | .hd _, _ | .pt _ _, _ => by simp [okRef]
  | .rc cs j, h => by simp only [okRef] at *; exact okRefs_nil g cs h
  | .cl r i, h | .el r i _, h | .vec r, h | .vw r _ _, h => by simp [okRef] at h
  | .agg cs, h | .tup cs, h => by simp only [okRef] at *; exact okRefs_nil g cs h
  | .fn f a b, h => by
    simp only [okRef, Bool.and_eq_true] at *
    exact ⟨okRefs_nil g a h.1, okRefs_nil g b h.2⟩
theorem okRefs_nil (g : List Nat) : ∀ (vs : List V), okRefs [] vs = true → okRefs g vs = true
  | [], _ => rfl
  | v :: vs, h => by
    simp only [okRefs, Bool.and_eq_true] at *
    exact ⟨okRef_nil g v h.1, okRefs_nil g vs h.2⟩
end

mutual
theorem ren_rel {c : Cfg} {l : List Nat} : ∀ (v v' : V) (u : Value), ren l v = some v' → RelV c v u → RelV (reC c l) v' u
  | .any, v', u, h, _ => by simp only [ren, Option.some.injEq] at h; subst h; simp only [RelV]
  | .x x, v', u, h, hr => by simp only [ren, Option.some.injEq] at h; subst h; simpa only [RelV] using hr
  | .ro t xs, v', u, h, hr => by simp only [ren, Option.some.injEq] at h; subst h; exact RelV.re (.ro t xs) u rfl hr
  | .rc cs j, v', u, h, hr => by
    simp only [ren] at h
    split at h
    · next hk => cases h; exact RelV.re (.rc cs j) u (okRef_nil l _ hk) hr
    · cases h
  | .fn f a b, v', u, h, hr => by
    simp only [ren] at h
    split at h
    · next a' b' e1 e2 =>
      cases h
      simp only [RelV] at *
      obtain ⟨us1, us2, e, h1, h2⟩ := hr
      exact ⟨us1, us2, e, renL_rel a a' _ e1 h1, renL_rel b b' _ e2 h2⟩
    · cases h
  | .vec r, v', u, h, hr => by
    have hsh := vec_shape hr
    simp only [ren] at h
    split at h
    · next k hk =>
      cases h
      have hg := pos_get hk
      simp only [RelV] at hr ⊢
      rw [reC_st hg]
      cases hs : c.st[r]? with
      | none => rw [hs] at hr; exact hr.elim
      | some ob =>
        rw [hs] at hr
        simp only [List.getD_eq_getElem?_getD, hs, Option.getD_some]
        cases ob with
        | vec t f xs => rw [reC_bl hg]; exact hr
        | _ => exact hsh
    · cases h
  | .vw r lo n, v', u, h, hr => by
    have hsh := vw_shape hr
    simp only [ren] at h
    split at h
    · next k hk =>
      cases h
      have hg := pos_get hk
      simp only [RelV] at hr ⊢
      rw [reC_st hg]
      cases hs : c.st[r]? with
      | none => rw [hs] at hr; exact hr.elim
      | some ob =>
        rw [hs] at hr
        simp only [List.getD_eq_getElem?_getD, hs, Option.getD_some]
        cases ob with
        | vec t f xs => rw [reC_bl hg]; exact hr
        | _ => exact hsh
    · cases h
  | .agg cs, v', u, h, hr => by
    simp only [ren] at h
    split at h
    · next cs' hk =>
      cases h
      simp only [RelV] at *
      obtain ⟨us, e, h1⟩ := hr
      exact ⟨us, e, renL_rel cs cs' _ hk h1⟩
    · cases h
  | .tup cs, v', u, h, hr => by
    simp only [ren] at h
    split at h
    · next cs' hk =>
      cases h
      simp only [RelV] at *
      obtain ⟨us, e, h1⟩ := hr
      exact ⟨us, e, renL_rel cs cs' _ hk h1⟩
    · cases h
  | .cl r i, v', u, h, hr => by
    have hsh := cl_shape hr
    simp only [ren] at h
    split at h
    · next k hk =>
      cases h
      have hg := pos_get hk
      simp only [RelV] at hr ⊢
      rw [reC_st hg]
      cases hs : c.st[r]? with
      | none => rw [hs] at hr; exact hr.elim
      | some ob =>
        rw [hs] at hr
        simp only [List.getD_eq_getElem?_getD, hs, Option.getD_some]
        cases ob with
        | cells cs =>
          obtain ⟨b, hb, e⟩ := hr
          exact ⟨b, by rw [reC_bl hg]; exact hb, e⟩
        | _ => exact hsh
    · cases h
  | .el _ _ _, v', u, h, _ => by simp [ren] at h
  | .gd _ _ _, v', u, h, _ => by simp [ren] at h
  | .hd x, v', u, h, hr => by simp only [ren, Option.some.injEq] at h; subst h; simpa only [RelV] using hr
  | .pt a i, v', u, h, hr => by simp only [ren, Option.some.injEq] at h; subst h; simpa only [RelV] using hr
theorem renL_rel {c : Cfg} {l : List Nat} : ∀ (vs vs' : List V) (us : List Value), renL l vs = some vs' → RelVs c vs us → RelVs (reC c l) vs' us
  | [], vs', us, h, hr => by simp only [renL, Option.some.injEq] at h; subst h; simpa only [RelVs] using hr
  | v :: vs, vs', us, h, hr => by
    simp only [renL] at h
    split at h
    · next v1 vs1 e1 e2 =>
      cases h
      simp only [RelVs] at *
      obtain ⟨u, us', e, h1, h2⟩ := hr
      exact ⟨u, us', e, ren_rel v v1 u e1 h1, renL_rel vs vs1 us' e2 h2⟩
    · cases h
end

end Eng
end Go.Proofs.YtkpplfghhciacaaDoor

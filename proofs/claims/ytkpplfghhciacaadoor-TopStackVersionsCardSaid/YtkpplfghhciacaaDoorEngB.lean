/-
  Operations that leave memory alone, on abstract values: what each gives, under which condition, and that the concrete operation gives the same. Conditions: none.
-/
import Derived.Test.YtkpplfghhciacaaDoorEngA
set_option linter.unusedVariables false
set_option linter.unusedSimpArgs false
namespace Go.Proofs.YtkpplfghhciacaaDoor
namespace Eng
open Go.RowKit

def vc : Option Prop → Prop
  | none => True
  | some p => p

section lists
variable {c : Cfg}

theorem RelVs.length : ∀ {vs : List V} {us : List Value}, RelVs c vs us → us.length = vs.length
  | [], us, h => by simp only [RelVs] at h; rw [h]; rfl
  | v :: vs, us, h => by
    simp only [RelVs] at h
    obtain ⟨u, us', rfl, _, h2⟩ := h
    simp [RelVs.length h2]

theorem RelVs.cons {v : V} {vs : List V} {u : Value} {us : List Value} (h1 : RelV c v u) (h2 : RelVs c vs us) : RelVs c (v :: vs) (u :: us) := by
  simp only [RelVs]
  exact ⟨u, us, rfl, h1, h2⟩

theorem RelVs.nil : RelVs c [] [] := by simp only [RelVs]

theorem RelVs.get : ∀ {vs : List V} {us : List Value} {i : Nat} {v : V}, RelVs c vs us → vs[i]? = some v → ∃ u, us[i]? = some u ∧ RelV c v u
  | [], _, i, v, _, hv => by simp at hv
  | w :: vs, us, i, v, h, hv => by
    simp only [RelVs] at h
    obtain ⟨u, us', rfl, h1, h2⟩ := h
    cases i with
    | zero => simp at hv; subst hv; exact ⟨u, by simp, h1⟩
    | succ i => simp at hv; obtain ⟨u', h3, h4⟩ := RelVs.get h2 hv; exact ⟨u', by simpa using h3, h4⟩

theorem RelVs.append : ∀ {a b : List V} {us1 us2 : List Value}, RelVs c a us1 → RelVs c b us2 → RelVs c (a ++ b) (us1 ++ us2)
  | [], _, us1, _, h1, h2 => by simp only [RelVs] at h1; subst h1; simpa using h2
  | v :: a, b, us1, us2, h1, h2 => by
    simp only [RelVs] at h1
    obtain ⟨u, us', rfl, h3, h4⟩ := h1
    exact RelVs.cons h3 (RelVs.append h4 h2)

theorem RelVs.split : ∀ {a b : List V} {us : List Value}, RelVs c (a ++ b) us → ∃ us1 us2, us = us1 ++ us2 ∧ RelVs c a us1 ∧ RelVs c b us2
  | [], _, us, h => ⟨[], us, rfl, RelVs.nil, h⟩
  | v :: a, b, us, h => by
    simp only [List.cons_append, RelVs] at h
    obtain ⟨u, us', rfl, h3, h4⟩ := h
    obtain ⟨us1, us2, rfl, h5, h6⟩ := RelVs.split h4
    exact ⟨u :: us1, us2, rfl, RelVs.cons h3 h5, h6⟩

theorem RelVs.drop : ∀ {vs : List V} {us : List Value}, RelVs c vs us → ∀ (n : Nat), RelVs c (vs.drop n) (us.drop n)
  | vs, us, h, 0 => by simpa using h
  | [], us, h, n + 1 => by simp only [RelVs] at h; subst h; exact RelVs.nil
  | v :: vs, us, h, n + 1 => by
    simp only [RelVs] at h
    obtain ⟨u, us', rfl, _, h2⟩ := h
    simpa using RelVs.drop h2 n

theorem RelVs.take : ∀ {vs : List V} {us : List Value}, RelVs c vs us → ∀ (n : Nat), RelVs c (vs.take n) (us.take n)
  | vs, us, _, 0 => by simpa using RelVs.nil
  | [], us, h, n + 1 => by simp only [RelVs] at h; subst h; exact RelVs.nil
  | v :: vs, us, h, n + 1 => by
    simp only [RelVs] at h
    obtain ⟨u, us', rfl, h1, h2⟩ := h
    exact RelVs.cons h1 (RelVs.take h2 n)

theorem RelVs.set : ∀ {vs : List V} {us : List Value} {v : V} {u : Value} (i : Nat), RelVs c vs us → RelV c v u → RelVs c (vs.set i v) (us.set i u)
  | [], us, _, _, _, h, _ => by simp only [RelVs] at h; subst h; simpa using RelVs.nil
  | w :: vs, us, v, u, i, h, hv => by
    simp only [RelVs] at h
    obtain ⟨u', us', rfl, h1, h2⟩ := h
    cases i with
    | zero => exact RelVs.cons hv h2
    | succ i => exact RelVs.cons h1 (RelVs.set i h2 hv)

theorem RelVs.map_x : ∀ (l : List Value), RelVs c (l.map V.x) l
  | [] => RelVs.nil
  | u :: l => RelVs.cons (by simp only [RelV]) (RelVs.map_x l)

theorem RoV.rel : ∀ {t : Ty} {y : t.den} {us : List Value}, RoV c.w c.A t y us → RelVs c (enc t y) us
  | .int k, n, us, h => by
    simp only [RoV] at h; subst h
    exact RelVs.cons (by simp only [RelV]) RelVs.nil
  | .bool, n, us, h => by
    simp only [RoV] at h; subst h
    exact RelVs.cons (by simp only [RelV]) RelVs.nil
  | .str, n, us, h => by
    simp only [RoV] at h; subst h
    exact RelVs.cons (by simp only [RelV]) RelVs.nil
  | .unit, n, us, h => by
    simp only [RoV] at h; subst h
    exact RelVs.nil
  | .pair a b, p, us, h => by
    simp only [RoV] at h
    obtain ⟨us1, us2, rfl, h1, h2⟩ := h
    exact RelVs.append (RoV.rel h1) (RoV.rel h2)
  | .slice e, xs, us, h => by
    have h1 := h
    simp only [RoV] at h
    rcases h with ⟨rfl, _⟩ | ⟨b, o, sp, cap, rfl, _⟩
    · exact RelVs.cons (by simp only [RelV]; exact h1) RelVs.nil
    · exact RelVs.cons (by simp only [RelV]; exact h1) RelVs.nil
  | .hnd, n, us, h => by
    simp only [RoV] at h; subst h
    exact RelVs.cons (by simp only [RelV]) RelVs.nil

theorem dec_sound : ∀ {t : Ty} {vs : List V} {y : t.den} {r : List V} {us : List Value}, dec t vs = some (y, r) → RelVs c vs us →
    ∃ us1 us2, us = us1 ++ us2 ∧ RoV c.w c.A t y us1 ∧ RelVs c r us2
  | .int k, vs, y, r, us, h, hr => by
    simp only [dec] at h
    split at h
    · next k' n r' =>
      split at h
      · next e =>
        simp only [Option.some.injEq, Prod.mk.injEq] at h
        obtain ⟨rfl, rfl⟩ := h
        simp only [RelVs] at hr
        obtain ⟨u, us', rfl, h1, h2⟩ := hr
        simp only [RelV] at h1
        exact ⟨[u], us', rfl, by simp only [RoV]; rw [h1, e], h2⟩
      · cases h
    · cases h
  | .bool, vs, y, r, us, h, hr => by
    simp only [dec] at h
    split at h
    · next b r' =>
      simp only [Option.some.injEq, Prod.mk.injEq] at h
      obtain ⟨rfl, rfl⟩ := h
      simp only [RelVs] at hr
      obtain ⟨u, us', rfl, h1, h2⟩ := hr
      simp only [RelV] at h1
      exact ⟨[u], us', rfl, by simp only [RoV]; rw [h1], h2⟩
    · cases h
  | .str, vs, y, r, us, h, hr => by
    simp only [dec] at h
    split at h
    · next b r' =>
      simp only [Option.some.injEq, Prod.mk.injEq] at h
      obtain ⟨rfl, rfl⟩ := h
      simp only [RelVs] at hr
      obtain ⟨u, us', rfl, h1, h2⟩ := hr
      simp only [RelV] at h1
      exact ⟨[u], us', rfl, by simp only [RoV]; rw [h1], h2⟩
    · cases h
  | .unit, vs, y, r, us, h, hr => by
    simp only [dec, Option.some.injEq, Prod.mk.injEq] at h
    obtain ⟨rfl, rfl⟩ := h
    exact ⟨[], us, rfl, rfl, hr⟩
  | .pair a b, vs, y, r, us, h, hr => by
    simp only [dec] at h
    split at h
    · next x r1 e1 =>
      split at h
      · next y2 r2 e2 =>
        simp only [Option.some.injEq, Prod.mk.injEq] at h
        obtain ⟨rfl, rfl⟩ := h
        obtain ⟨us1, us2, rfl, h1, h2⟩ := dec_sound e1 hr
        obtain ⟨us3, us4, rfl, h3, h4⟩ := dec_sound e2 h2
        exact ⟨us1 ++ us3, us4, by simp, ⟨us1, us3, rfl, h1, h3⟩, h4⟩
      · cases h
    · cases h
  | .slice e, vs, y, r, us, h, hr => by
    simp only [dec] at h
    split at h
    · next t xs r' =>
      split at h
      · next ht =>
        simp only [Option.some.injEq, Prod.mk.injEq] at h
        obtain ⟨rfl, rfl⟩ := h
        simp only [RelVs] at hr
        obtain ⟨u, us', rfl, h1, h2⟩ := hr
        simp only [RelV] at h1
        have e2 := Ty.eqb_eq ht
        subst e2
        exact ⟨[u], us', rfl, h1, h2⟩
      · cases h
    · next r' =>
      simp only [Option.some.injEq, Prod.mk.injEq] at h
      obtain ⟨rfl, rfl⟩ := h
      simp only [RelVs] at hr
      obtain ⟨u, us', rfl, h1, h2⟩ := hr
      simp only [RelV] at h1
      subst h1
      exact ⟨[_], us', rfl, by simp only [RoV]; exact .inl ⟨rfl, rfl⟩, h2⟩
    · cases h
  | .hnd, vs, y, r, us, h, hr => by
    simp only [dec] at h
    split at h
    · next b r' =>
      simp only [Option.some.injEq, Prod.mk.injEq] at h
      obtain ⟨rfl, rfl⟩ := h
      simp only [RelVs] at hr
      obtain ⟨u, us', rfl, h1, h2⟩ := hr
      simp only [RelV] at h1
      exact ⟨[u], us', rfl, by simp only [RoV]; rw [h1], h2⟩
    · next r' =>
      simp only [Option.some.injEq, Prod.mk.injEq] at h
      obtain ⟨rfl, rfl⟩ := h
      simp only [RelVs] at hr
      obtain ⟨u, us', rfl, h1, h2⟩ := hr
      simp only [RelV] at h1
      subst h1
      exact ⟨[_], us', rfl, rfl, h2⟩
    · cases h

theorem RelC.mk : ∀ {vs : List V} {us : List Value} {b o : Nat}, RelVs c vs us → (∀ j u, us[j]? = some u → c.w.cell? ⟨b, o + j, none⟩ = some u ∧ c.A b (o + j)) → RelC c vs b o
  | [], _, _, _, _, _ => by simp only [RelC]
  | v :: vs, us, b, o, h, hc => by
    simp only [RelVs] at h
    obtain ⟨u, us', rfl, h1, h2⟩ := h
    simp only [RelC]
    have h0 := hc 0 u (by simp)
    refine ⟨⟨u, h0.1, h0.2, h1⟩, RelC.mk h2 fun j x hx => ?_⟩
    have := hc (j + 1) x (by simpa using hx)
    rw [show o + 1 + j = o + (j + 1) from by omega]
    exact this

theorem RelC.list : ∀ {vs : List V} {b o : Nat}, RelC c vs b o → ∃ us, RelVs c vs us ∧ ∀ j u, us[j]? = some u → c.w.cell? ⟨b, o + j, none⟩ = some u ∧ c.A b (o + j)
  | [], _, _, _ => ⟨[], RelVs.nil, fun j u h => by simp at h⟩
  | v :: vs, b, o, h => by
    simp only [RelC] at h
    obtain ⟨⟨u, h1, h2, h3⟩, h4⟩ := h
    obtain ⟨us, h5, h6⟩ := RelC.list h4
    refine ⟨u :: us, RelVs.cons h3 h5, fun j x hx => ?_⟩
    cases j with
    | zero => simp at hx; subst hx; exact ⟨h1, h2⟩
    | succ j =>
      have := h6 j x (by simpa using hx)
      rw [show o + (j + 1) = o + 1 + j from by omega]
      exact this

end lists

/-- The cells from a pointer on. -/
def cellsAt (st : List Ob) : V → Option (List V)
  | .rc cs j => some (cs.drop j)
  | .cl r i => match st[r]? with
    | some (.cells cs) => some (cs.drop i)
    | _ => none
  | .el r i j => match st[r]? with
    | some (.vec t _ xs) => some ((enc t (xs.getD i t.dflt)).drop j)
    | _ => none
  | _ => none

theorem cellsAt_sound {w0 : Base} {c : Cfg} (hr : Rel w0 c) {v : V} {vs : List V} {u : Value} (h : cellsAt c.st v = some vs) (hv : RelV c v u) :
    ∃ b o us, u = .pointer (some ⟨b, o, none⟩) ∧ RelVs c vs us ∧ ∀ j x, us[j]? = some x → c.w.cell? ⟨b, o + j, none⟩ = some x := by
  cases v with
  | rc cs j =>
    simp only [cellsAt, Option.some.injEq] at h
    subst h
    simp only [RelV] at hv
    obtain ⟨b, o, rfl, hc⟩ := hv
    obtain ⟨us, h1, h2⟩ := RelC.list hc
    refine ⟨b, o + j, us.drop j, rfl, h1.drop j, fun k x hx => ?_⟩
    rw [List.getElem?_drop] at hx
    rw [Nat.add_assoc]
    exact (h2 _ _ hx).1
  | cl r i =>
    simp only [cellsAt] at h
    split at h
    · next cs e =>
      cases h
      simp only [RelV, e] at hv
      obtain ⟨b, hb, rfl⟩ := hv
      obtain ⟨b', ce, ty, hb', hheap, hvs, _⟩ := hr.obj r _ e
      rw [hb] at hb'
      cases hb'
      refine ⟨b, i, ce.toList.drop i, rfl, hvs.drop i, fun k x hx => ?_⟩
      rw [List.getElem?_drop] at hx
      rw [cell_of_row c.w b _ ce ty _ hheap]
      simpa using hx
    · cases h
  | el r i j =>
    simp only [cellsAt] at h
    split at h
    · next t f xs e =>
      cases h
      simp only [RelV, e] at hv
      obtain ⟨b, hb, rfl, hi⟩ := hv
      obtain ⟨hpos, _, ⟨hn, _⟩ | ⟨b', ce, ty, cap, hb', hheap, hsz, hcap, hrow, _⟩⟩ := hr.obj r _ e
      · rw [hn] at hb; cases hb
      rw [hb] at hb'
      cases hb'
      have hy : xs[i]? = some (xs.getD i t.dflt) := by simp [List.getD, List.getElem?_eq_getElem hi]
      have h1 := (hrow i _ hy).rel
      refine ⟨b, i * t.size + j, _, rfl, h1.drop j, fun k x hx => ?_⟩
      rw [List.getElem?_drop, List.getElem?_take] at hx
      split at hx
      · rw [List.getElem?_drop] at hx
        rw [cell_of_row c.w b _ ce ty _ hheap, Nat.add_assoc]
        simpa using hx
      · cases hx
    · cases h
  | _ => simp [cellsAt] at h

def isAggD : TypeDesc → Bool
  | .struct _ => true
  | .array _ _ => true
  | _ => false

theorem run_isAgg {P : Program} {t : TypeId} {d : TypeDesc} (h : P.underlying t = some d) (w : World) : (isAgg t).run P w = .ok (isAggD d) w := by
  unfold isAgg
  rw [Sem.run_bind, run_underlying h]
  cases d <;> rfl

theorem run_sizeOf' {P : Program} {t : TypeId} {i : TypeInfo} (h : P.info? t = some i) (w : World) : (sizeOf t).run P w = .ok i.size w := by
  simp [sizeOf, typeInfo, h]

/-- The value of a variable of this type whose cells begin this list. -/
def getV (P : Program) (t : TypeId) (vs : List V) : Option V :=
  match P.underlying t, P.info? t with
  | some d, some i =>
    if isAggD d = true then (if (vs.take i.size).length = i.size then some (.agg (vs.take i.size)) else none)
    else vs[0]?
  | _, _ => none

theorem getV_sound {P : Program} {c : Cfg} {t : TypeId} {vs : List V} {v : V} {b o : Nat} {us : List Value} (h : getV P t vs = some v) (hvs : RelVs c vs us)
    (hc : ∀ j x, us[j]? = some x → c.w.cell? ⟨b, o + j, none⟩ = some x) :
    ∃ u, (loadVar t ⟨b, o, none⟩).run P c.w = .ok u c.w ∧ RelV c v u := by
  unfold getV at h
  split at h
  · next d i hd hi =>
    split at h
    · next hagg =>
      split at h
      · next hlen =>
        cases h
        have h1 := hvs.take i.size
        refine ⟨.agg (us.take i.size).toArray, ?_, ?_⟩
        · unfold loadVar
          rw [Sem.run_bind, run_isAgg hd]
          simp only [Result.andThen_ok, hagg, if_true, Sem.run_bind, run_sizeOf' hi]
          have hn : (us.take i.size).length = i.size := by rw [h1.length, hlen]
          have := run_loadCells_list (P := P) c.w ⟨b, o, none⟩ (us.take i.size) (fun j x hx => by
            have hadd : (⟨b, o, none⟩ : Addr).add j = ⟨b, o + j, none⟩ := by unfold Addr.add; split <;> simp_all
            rw [hadd]
            rw [List.getElem?_take] at hx
            split at hx
            · exact hc j x hx
            · cases hx)
          rw [hn] at this
          rw [this]
          simp
        · simp only [RelV]
          exact ⟨_, rfl, by simpa using h1⟩
      · cases h
    · next hagg =>
      obtain ⟨u, h1, h2⟩ := hvs.get h
      refine ⟨u, ?_, h2⟩
      unfold loadVar
      rw [Sem.run_bind, run_isAgg hd]
      have := hc 0 u h1
      simp only [Nat.add_zero] at this
      simp [hagg, this]
  · cases h

def aload (P : Program) (st : List Ob) (t : TypeId) (a : V) : Option V :=
  match cellsAt st a with
  | some vs => getV P t vs
  | none => none

theorem aload_sound {P : Program} {w0 : Base} {c : Cfg} (hr : Rel w0 c) {t : TypeId} {a v : V} {u : Value} (h : aload P c.st t a = some v) (hv : RelV c a u) :
    ∃ x, (Instr.loadAt t u).run P c.w = .ok x c.w ∧ RelV c v x := by
  unfold aload at h
  split at h
  · next vs e =>
    obtain ⟨b, o, us, rfl, h1, h2⟩ := cellsAt_sound hr e hv
    obtain ⟨x, h3, h4⟩ := getV_sound (P := P) h h1 h2
    exact ⟨x, by simp [Instr.loadAt, Instr.sureAddr, h3], h4⟩
  · cases h

end Eng
end Go.Proofs.YtkpplfghhciacaaDoor

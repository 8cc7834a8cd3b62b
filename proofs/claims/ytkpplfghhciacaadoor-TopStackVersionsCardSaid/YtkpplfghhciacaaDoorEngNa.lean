/-
  Functions that are handed objects over, and calls of such functions. Conditions: none.
-/
import Derived.Test.YtkpplfghhciacaaDoorEngN
set_option linter.unusedVariables false
set_option linter.unusedSimpArgs false
namespace Go.Proofs.YtkpplfghhciacaaDoor
namespace Eng
open Go.RowKit

/-- What a function does that is handed objects over: they come back changed, with what the function has made beside. -/
abbrev SemO := List V → List Ob → (V → List Ob → Prop) → Prop

def SoundO (P : Program) (f : FuncId) (sem : SemO) : Prop :=
  ∀ (w0 : Base) (c : Cfg) (args : List V) (us : Array Value) (K : V → List Ob → Prop), Rel w0 c → RelVs c args us.toList → sem args c.st K →
    Calls P f us c.w fun e w' => ∃ u v c', e = .returned u ∧ c'.w = w' ∧ Rel w0 c' ∧ Ext c c' ∧ RelV c' v u ∧ K v c'.st

/-- A function that is handed nothing over. -/
theorem SoundO.toFn {P : Program} {f : FuncId} {sem : SemO} (h : SoundO P f sem) : SoundFn P f fun args K => sem args [] K :=
  fun w A args us K hA ha hs => h ⟨w, A, fun _ => False⟩ (cfg0 w A) args us K (rel0 hA) ha hs

/-- Of a function's memory: the objects that were handed over, and what they and the result reach. -/
def packO (k : Nat) (v : V) (st : List Ob) (K : V → List Ob → Prop) : Prop :=
  match reach st 4 (addN (List.range k) (names v)) with
  | g => bif distinct g && Nat.ble k g.length && (List.range k).all (fun r => match g[r]? with | some i => Nat.beq i r | none => false) then
      match renD g v with
      | some v' => K v' (g.map fun i => renO g (st.getD i .dead))
      | none => False
    else False

theorem packO_sound {w0 : Base} {cb c : Cfg} (hr : Rel w0 c) (hx : Ext cb c) {k : Nat} (hk : cb.st.length ≤ k) {v : V} {u : Value} (hv : RelV c v u) {K : V → List Ob → Prop} (h : packO k v c.st K) :
    ∃ v' c', c'.w = c.w ∧ Rel w0 c' ∧ Ext cb c' ∧ RelV c' v' u ∧ K v' c'.st := by
  unfold packO at h
  simp only at h
  generalize reach c.st 4 (addN (List.range k) (names v)) = g at h
  cases hc : distinct g && Nat.ble k g.length && (List.range k).all (fun r => match g[r]? with | some i => Nat.beq i r | none => false) with
  | false => rw [hc] at h; exact h.elim
  | true =>
    rw [hc] at h
    simp only [cond_true] at h
    simp only [Bool.and_eq_true, List.all_eq_true] at hc
    obtain ⟨⟨hd, hl⟩, ha⟩ := hc
    split at h
    · next v' hv' =>
      refine ⟨v', reD c g, rfl, reD_rel hr hd, reD_ext hx (fun r hrl => ?_), renD_rel v v' u hv' hv, h⟩
      have := ha r (by simp; omega)
      split at this
      · next i hi => rw [hi, Nat.eq_of_beq_eq_true this]
      · cases this
    · exact h.elim

/-- What is left at the end. -/
def endO (rs : Rs) (flds : List (Nat × Nat × Rs)) (k : Nat) (K : V → List Ob → Prop) (v0 : V) (st0 : List Ob) : Prop := match ownR rs v0 st0 with
  | (v, st1) => packO k v (coF ownR flds st1) K

theorem endO_sound {w0 : Base} {c c0 : Cfg} {rs : Rs} {flds : List (Nat × Nat × Rs)} {k : Nat} {K : V → List Ob → Prop} {v0 : V} {u : Value} (hlen : c.st.length ≤ k) (h1 : Rel w0 c0) (h2 : Ext c c0) (h3 : RelV c0 v0 u) (h4 : endO rs flds k K v0 c0.st) :
    ∃ v' c', c'.w = c0.w ∧ Rel w0 c' ∧ Ext c c' ∧ RelV c' v' u ∧ K v' c'.st := by
  unfold endO at h4
  obtain ⟨c1, e1, e2, g1, g2, g3⟩ := ownR_sound rs v0 c0 h1
  have g4 := g3 u h3
  split at h4
  next v1 st1 heq =>
  have ev : (ownR rs v0 c0.st).1 = v1 := by rw [heq]
  have es : st1 = c1.st := by rw [e2, heq]
  rw [ev] at g4
  rw [es] at h4
  obtain ⟨c2, j1, j2, j3, j4⟩ := coF_sound ownR_ms flds c1 g1
  rw [← j2] at h4
  obtain ⟨v', c', k1, k2, k3, k4, k5⟩ := packO_sound j3 ((h2.trans g2).trans j4) hlen (RelV.ext j4 _ _ g4) h4
  exact ⟨v', c', k1.trans (j1.trans e1), k2, k3, k4, k5⟩

/-- A function's run on objects that it is handed over; with a pool of its own, if it makes one. -/
def runO (P : Program) (C : Caller) (D : List Oper → List V → List Ob → St → Prop) (ann : Ann) (rs : Rs) (flds : List (Nat × Nat × Rs)) (fn : Func) (pl : Bool) (k : Nat) : SemO := fun args st K =>
  bif Nat.beq st.length k then (match pl with
    | false => execF P C D ann fn args st (endO rs flds k K)
    | true => match poolAt 0 st with
      | some _ => False
      | none => execF P C D ann fn args (st ++ [.pool []]) fun v0 st0 => settleP k st0 (endO rs flds k K v0)) else False

theorem poolAt_none : ∀ {st : List Ob} {i r : Nat} {m : Pool}, poolAt i st = none → st[r]? ≠ some (.pool m)
  | ob :: st, i, 0, m, h, e => by
    simp only [List.getElem?_cons_zero, Option.some.injEq] at e
    subst e
    simp [poolAt] at h
  | ob :: st, i, r + 1, m, h, e => by
    refine poolAt_none (st := st) (i := i + 1) (r := r) (m := m) ?_ (by simpa using e)
    cases ob <;> first | exact h | simp [poolAt] at h

/-- A pool is made. -/
theorem newpool_rel {w0 : Base} {c : Cfg} (hr : Rel w0 c) (hn : poolAt 0 c.st = none) : Rel w0 { c with st := c.st ++ [.pool []], bl := fun r => if r = c.st.length then none else c.bl r } ∧ Ext c { c with st := c.st ++ [.pool []], bl := fun r => if r = c.st.length then none else c.bl r } := by
  have hblr : ∀ r, r < c.st.length → (if r = c.st.length then none else c.bl r) = c.bl r := fun r h => by rw [if_neg (by omega)]
  have hx : Ext c { c with st := c.st ++ [.pool []], bl := fun r => if r = c.st.length then none else c.bl r } := {
    size := Nat.le_refl _
    sub := fun _ _ h => h
    cells := fun _ _ _ => rfl
    len := by simp
    keep := fun r ob' hrl h => by
      simp only at h
      rw [List.getElem?_append_left hrl] at h
      cases ob' with
      | dead => trivial
      | cells cs => exact ⟨⟨cs, h⟩, hblr r hrl⟩
      | pool m => exact ⟨m, h⟩
      | vec t f xs => exact ⟨f, xs, h, rfl, hblr r hrl, fun _ _ _ h => h⟩ }
  have hlive : ∀ r b, live (c.st ++ [Ob.pool []]) r → (if r = c.st.length then none else c.bl r) = some b → live c.st r ∧ c.bl r = some b := by
    intro r b h hb
    have h1 := live_lt h
    simp only [List.length_append, List.length_singleton] at h1
    rcases Nat.lt_or_ge r c.st.length with g | g
    · rw [hblr r g] at hb
      refine ⟨?_, hb⟩
      unfold live at h ⊢
      rw [List.getElem?_append_left g] at h
      exact h
    · obtain rfl : r = c.st.length := by omega
      simp at hb
  refine ⟨?_, hx⟩
  exact {
    below := hr.below
    inj := fun r r' b h h' hb hb' => hr.inj r r' b (hlive r b h hb).1 (hlive r' b h' hb').1 (hlive r b h hb).2 (hlive r' b h' hb').2
    fresh := fun r b h hb => hr.fresh r b (hlive r b h hb).1 (hlive r b h hb).2
    bound := hr.bound
    newA := hr.newA
    obj := fun r ob' h => by
      rcases get_push h with ⟨g, h1⟩ | ⟨rfl, rfl⟩
      · exact OkOb.keep hx (hblr r g) (fun _ _ => rfl) (fun _ _ _ h => h) (hr.obj r _ h1)
      · show (if c.st.length = c.st.length then none else _) = none
        simp
    pl := by
      have hq : ∀ (r : Nat) (m : Pool), (c.st ++ [Ob.pool []])[r]? = some (.pool m) → r = c.st.length ∧ m = [] := fun r m h => by
        rcases get_push h with ⟨_, h1⟩ | ⟨g, h1⟩
        · exact absurd h1 (poolAt_none hn)
        · cases h1; exact ⟨g, rfl⟩
      exact ⟨fun r r' m m' h h' => by rw [(hq r m h).1, (hq r' m' h').1], fun r m h => by
        rw [(hq r m h).2]
        exact ⟨by simp, fun b row hb => by simp at hb⟩⟩ }

set_option maxHeartbeats 1600000 in
theorem runO_sound {P : Program} {C : Caller} {D : List Oper → List V → List Ob → St → Prop} (hC : SoundC P C) (hD : SoundD P D) {f : FuncId} {fn : Func} (hf : P.funcs[f]? = some fn) (ann : Ann) (rs : Rs) (flds : List (Nat × Nat × Rs)) (pl : Bool) (k N : Nat) (hN : N = bif pl then k + 1 else k) (hk : ∀ code, fn.body = some code → AnnOk P C D N ann code) : SoundO P f (runO P C D ann rs flds fn pl k) := by
  intro w0 c args us K hr ha h
  unfold runO at h
  cases hl : Nat.beq c.st.length k with
  | false => rw [hl] at h; exact h.elim
  | true =>
    rw [hl] at h
    simp only [cond_true] at h
    have hlen : c.st.length ≤ k := by rw [Nat.eq_of_beq_eq_true hl]; exact Nat.le_refl _
    cases pl with
    | false =>
      simp only [cond_false] at hN
      subst hN
      refine (fn_sound hC hD hf hk (c := c) hlen hr ha h).mono fun e w' hh => ?_
      obtain ⟨u, v0, c0, rfl, rfl, h1, h2, h3, h4⟩ := hh
      obtain ⟨v', c', k1, k2, k3, k4, k5⟩ := endO_sound hlen h1 h2 h3 h4
      exact ⟨u, v', c', rfl, k1, k2, k3, k4, k5⟩
    | true =>
      simp only [cond_true] at hN
      subst hN
      simp only at h
      split at h
      · exact h.elim
      · next hno =>
        obtain ⟨cp, q1, q2, p1, p2⟩ : ∃ cp : Cfg, cp.w = c.w ∧ cp.st = c.st ++ [.pool []] ∧ Rel w0 cp ∧ Ext c cp :=
          ⟨{ c with st := c.st ++ [.pool []], bl := fun r => if r = c.st.length then none else c.bl r }, rfl, rfl, newpool_rel hr hno⟩
        rw [← q2] at h
        have hl2 : cp.st.length ≤ k + 1 := by rw [q2, List.length_append]; simp only [List.length_singleton]; omega
        rw [← q1]
        refine (fn_sound hC hD hf hk (c := cp) hl2 p1 (RelVs.ext p2 _ _ ha) h).mono fun e w' hh => ?_
        obtain ⟨u, v0, c0, rfl, rfl, h1, h2, h3, h4⟩ := hh
        obtain ⟨c1, s1, s2, s3, s4, s5⟩ := settle_sound h1 (p2.trans h2) hlen h4
        have s6 : RelV c1 v0 u := s4 v0 u h3
        have s7 : endO rs flds k K v0 c1.st := s5
        obtain ⟨v', c', k1, k2, k3, k4, k5⟩ := endO_sound (c := c) (c0 := c1) (v0 := v0) (u := u) hlen s2 s3 s6 s7
        exact ⟨u, v', c', rfl, k1.trans s1, k2, k3, k4, k5⟩

mutual
def mapV (h : Nat → Nat) : V → V
  | .rc cs j => .rc (mapVs h cs) j
  | .cl r i => .cl (h r) i
  | .el r i j => .el (h r) i j
  | .vec r => .vec (h r)
  | .vw r lo n => .vw (h r) lo n
  | .agg cs => .agg (mapVs h cs)
  | .tup cs => .tup (mapVs h cs)
  | .fn f a b => .fn f (mapVs h a) (mapVs h b)
  | v => v
def mapVs (h : Nat → Nat) : List V → List V
  | [] => []
  | v :: vs => mapV h v :: mapVs h vs
end

def mapO (h : Nat → Nat) : Ob → Ob
  | .cells cs => .cells (mapVs h cs)
  | ob => ob

mutual
theorem mapV_rel {c c' : Cfg} {h : Nat → Nat} (hA : ∀ b o, c.A b o → c'.A b o) (hw : c'.w = c.w) (hs : ∀ j ob, c.st[j]? = some ob → c'.st[h j]? = some (mapO h ob)) (hb : ∀ j ob, c.st[j]? = some ob → c'.bl (h j) = c.bl j) :
    ∀ (v : V) (u : Value), RelV c v u → RelV c' (mapV h v) u
  | .any, u, _ => by simp only [mapV, RelV]
  | .x v, u, hv => by simpa only [mapV, RelV] using hv
  | .ro t xs, u, hv => by
    simp only [mapV, RelV] at *
    exact RoV.ext hA (fun b o _ => by rw [hw]) hv
  | .rc cs j, u, hv => by
    simp only [mapV, RelV] at *
    obtain ⟨b, o, e, hc⟩ := hv
    obtain ⟨us, h1, h2⟩ := RelC.list hc
    exact ⟨b, o, e, RelC.mk (mapVs_rel hA hw hs hb cs us h1) fun k x hk => ⟨by rw [hw]; exact (h2 k x hk).1, hA _ _ (h2 k x hk).2⟩⟩
  | .cl r i, u, hv => by
    have hsh := cl_shape hv
    simp only [mapV, RelV] at *
    cases he : c.st[r]? with
    | none => rw [he] at hv; exact hv.elim
    | some ob =>
      rw [he] at hv
      rw [hs r ob he, hb r ob he]
      cases ob <;> first | exact hv | exact hsh
  | .el r i j, u, hv => by
    have hsh := el_shape hv
    simp only [mapV, RelV] at *
    cases he : c.st[r]? with
    | none => rw [he] at hv; exact hv.elim
    | some ob =>
      rw [he] at hv
      rw [hs r ob he, hb r ob he]
      cases ob <;> first | exact hv | exact hsh
  | .vec r, u, hv => by
    have hsh := vec_shape hv
    simp only [mapV, RelV] at *
    cases he : c.st[r]? with
    | none => rw [he] at hv; exact hv.elim
    | some ob =>
      rw [he] at hv
      rw [hs r ob he, hb r ob he]
      cases ob with
      | vec t f xs => simp only [mapO]; rw [hw]; exact hv
      | _ => exact hsh
  | .vw r lo n, u, hv => by
    have hsh := vw_shape hv
    simp only [mapV, RelV] at *
    cases he : c.st[r]? with
    | none => rw [he] at hv; exact hv.elim
    | some ob =>
      rw [he] at hv
      rw [hs r ob he, hb r ob he]
      cases ob with
      | vec t f xs => simp only [mapO]; rw [hw]; exact hv
      | _ => exact hsh
  | .agg cs, u, hv => by
    simp only [mapV, RelV] at *
    obtain ⟨us, e, h1⟩ := hv
    exact ⟨us, e, mapVs_rel hA hw hs hb cs _ h1⟩
  | .tup cs, u, hv => by
    simp only [mapV, RelV] at *
    obtain ⟨us, e, h1⟩ := hv
    exact ⟨us, e, mapVs_rel hA hw hs hb cs _ h1⟩
  | .fn f a b, u, hv => by
    simp only [mapV, RelV] at *
    obtain ⟨us1, us2, e, h1, h2⟩ := hv
    exact ⟨us1, us2, e, mapVs_rel hA hw hs hb a _ h1, mapVs_rel hA hw hs hb b _ h2⟩
  | .gd _ _ _, u, _ => by simp only [mapV, RelV]
  | .hd x, u, hv => by simpa only [mapV, RelV] using hv
  | .pt a i, u, hv => by simpa only [mapV, RelV] using hv
theorem mapVs_rel {c c' : Cfg} {h : Nat → Nat} (hA : ∀ b o, c.A b o → c'.A b o) (hw : c'.w = c.w) (hs : ∀ j ob, c.st[j]? = some ob → c'.st[h j]? = some (mapO h ob)) (hb : ∀ j ob, c.st[j]? = some ob → c'.bl (h j) = c.bl j) :
    ∀ (vs : List V) (us : List Value), RelVs c vs us → RelVs c' (mapVs h vs) us
  | [], us, hv => by simpa only [mapVs, RelVs] using hv
  | v :: vs, us, hv => by
    simp only [mapVs, RelVs] at *
    obtain ⟨u, us', e, h1, h2⟩ := hv
    exact ⟨u, us', e, mapV_rel hA hw hs hb v u h1, mapVs_rel hA hw hs hb vs us' h2⟩
end

/-- Where the objects of a callee go. -/
def home (g : List Nat) (n : Nat) (j : Nat) : Nat := match g[j]? with
  | some i => i
  | none => n + (j - g.length)

/-- The caller's objects behind the call. -/
def backO (g : List Nat) (st st1 : List Ob) : List Ob :=
  ((List.range st.length).map fun r => match pos g r with
    | some j => mapO (home g st.length) (st1.getD j .dead)
    | none => st.getD r .dead) ++ (st1.drop g.length).map (mapO (home g st.length))

/-- Where pools are. -/
def pools : Nat → List Ob → List Nat
  | _, [] => []
  | i, .pool _ :: r => i :: pools (i + 1) r
  | i, _ :: r => pools (i + 1) r

theorem pools_mem : ∀ {st : List Ob} {r : Nat} {m : Pool}, st[r]? = some (.pool m) → ∀ i, i + r ∈ pools i st
  | ob :: st, 0, m, h, i => by
    simp only [List.getElem?_cons_zero, Option.some.injEq] at h
    subst h
    simp [pools]
  | ob :: st, r + 1, m, h, i => by
    have := pools_mem (st := st) (by simpa using h) (i + 1)
    rw [show i + (r + 1) = i + 1 + r from by omega]
    cases ob <;> simp only [pools] <;> first | exact this | exact List.mem_cons_of_mem _ this

theorem has_mem : ∀ {l : List Nat} {x : Nat}, has l x = true → x ∈ l
  | y :: r, x, h => by
    simp only [has, Bool.or_eq_true] at h
    rcases h with h | h
    · rw [Nat.eq_of_beq_eq_true h]; simp
    · exact List.mem_cons_of_mem _ (has_mem h)

/-- A call that hands objects over. -/
def callO (sem : SemO) (args : List V) (st : List Ob) (K : V → List Ob → Prop) : Prop :=
  match reach st 4 (addN (pools 0 st) (namesL args)) with
  | g => bif distinct g && g.all (fun i => Nat.blt i st.length) && (pools 0 st).all (fun i => has g i) then
      match renDL g args with
      | some args' => sem args' (g.map fun i => renO g (st.getD i .dead)) fun v st1 => K (mapV (home g st.length) v) (backO g st st1)
      | none => False
    else False

theorem pos_of_get : ∀ {l : List Nat} {j i : Nat}, distinct l = true → l[j]? = some i → pos l i = some j
  | [], j, i, _, h => by simp at h
  | y :: r, 0, i, _, h => by
    simp only [List.getElem?_cons_zero, Option.some.injEq] at h
    simp [pos, h]
  | y :: r, j + 1, i, hd, h => by
    simp only [distinct, Bool.and_eq_true, Bool.not_eq_true'] at hd
    simp only [List.getElem?_cons_succ] at h
    have hm := List.mem_of_getElem? h
    have hne : ¬ y = i := by
      rintro rfl
      have := hd.1
      simp at this
      exact this hm
    simp only [pos, if_neg hne, pos_of_get hd.2 h]

def backC (c : Cfg) (g : List Nat) (c1 : Cfg) : Cfg :=
  { w := c1.w, A := c1.A, st := backO g c.st c1.st, bl := fun r => if r < c.st.length then (match pos g r with | some j => c1.bl j | none => c.bl r) else c1.bl (g.length + (r - c.st.length)) }

theorem callO_sound {P : Program} {f : FuncId} {sem : SemO} (h : SoundO P f sem) {w0 : Base} {c : Cfg} {args : List V} {us : Array Value} {K : V → List Ob → Prop} (hr : Rel w0 c) (ha : RelVs c args us.toList) (hc : callO sem args c.st K) :
    Calls P f us c.w fun e w' => ∃ u v c', e = .returned u ∧ c'.w = w' ∧ Rel w0 c' ∧ Ext c c' ∧ RelV c' v u ∧ K v c'.st := by
  unfold callO at hc
  simp only at hc
  generalize reach c.st 4 (addN (pools 0 c.st) (namesL args)) = g at hc
  cases hcc : distinct g && g.all (fun i => Nat.blt i c.st.length) && (pools 0 c.st).all (fun i => has g i) with
  | false => rw [hcc] at hc; exact hc.elim
  | true =>
    rw [hcc] at hc
    simp only [cond_true] at hc
    simp only [Bool.and_eq_true, List.all_eq_true] at hcc
    obtain ⟨⟨hd, hall⟩, hpl⟩ := hcc
    split at hc
    · next args' hargs =>
      -- the callee's view
      have hsub : Rel ⟨c.w, c.A, fun b => (∃ i, i ∈ g ∧ live c.st i ∧ c.bl i = some b) ∨ ∃ (i : Nat) (m : Pool) (row : List Int × Nat), i ∈ g ∧ c.st[i]? = some (Ob.pool m) ∧ (b, row) ∈ m⟩ (reD c g) := {
        below := Kept.refl _ _ _
        inj := fun r r' b h h' hb hb' => by
          obtain ⟨i, g1, g2, g3⟩ := reD_live h
          obtain ⟨i', k1, k2, k3⟩ := reD_live h'
          have := hr.inj i i' b g2 k2 (g3 ▸ hb) (k3 ▸ hb')
          subst this
          exact distinct_inj hd g1 k1
        fresh := fun r b h hb => by
          obtain ⟨i, g1, g2, g3⟩ := reD_live h
          exact .inr (.inl ⟨i, List.mem_of_getElem? g1, g2, g3 ▸ hb⟩)
        bound := hr.bound
        newA := fun b o h => .inl h
        obj := reD_obj hr.obj
        pl := by
          have hpool : ∀ (r : Nat) (m : Pool), (reD c g).st[r]? = some (Ob.pool m) → ∃ i, g[r]? = some i ∧ c.st[i]? = some (Ob.pool m) := fun r m hm => by
            cases hg : g[r]? with
            | none => simp [reD, hg] at hm
            | some i =>
              rw [reD_st hg] at hm
              refine ⟨i, rfl, ?_⟩
              cases hs : c.st[i]? with
              | none => simp [List.getD, hs, renO] at hm
              | some ob' =>
                rw [getD_of hs] at hm
                rw [renO_pool (Option.some.inj hm)]
          refine ⟨fun r r' m m' h1 h2 => ?_, fun r m hm => ?_⟩
          · obtain ⟨i, g1, g2⟩ := hpool r m h1
            obtain ⟨i', k1, k2⟩ := hpool r' m' h2
            have := hr.pl.1 i i' m m' g2 k2
            subst this
            exact distinct_inj hd g1 k1
          · obtain ⟨i, g1, g2⟩ := hpool r m hm
            obtain ⟨hn, hp⟩ := hr.pl.2 i m g2
            refine ⟨hn, fun b row hb => ?_⟩
            obtain ⟨_, h2, h3, h4⟩ := hp b row hb
            refine ⟨.inr (.inr ⟨i, m, row, List.mem_of_getElem? g1, g2, hb⟩), fun r0 k1 k2 => ?_, h3, h4⟩
            obtain ⟨i0, _, q2, q3⟩ := reD_live k1
            exact h2 i0 q2 (q3 ▸ k2) }
      refine (h _ (reD c g) args' us _ hsub (renDL_rel args args' _ hargs ha) hc).mono fun e w' hh => ?_
      obtain ⟨u, v, c1, rfl, rfl, h1, h2, h3, h4⟩ := hh
      have hglen : g.length ≤ c1.st.length := by
        have := h2.len
        simpa [reD] using this
      -- where things are behind the call
      have hpos : ∀ {r j : Nat}, pos g r = some j → g[j]? = some r ∧ r < c.st.length ∧ j < g.length := fun {r j} hp => by
        have hg := pos_get hp
        have hlt := hall r (List.mem_of_getElem? hg)
        exact ⟨hg, by simpa using hlt, (List.getElem?_eq_some_iff.1 hg).1⟩
      have hst_old : ∀ r, r < c.st.length → (backC c g c1).st[r]? = some (match pos g r with | some j => mapO (home g c.st.length) (c1.st.getD j .dead) | none => c.st.getD r .dead) := fun r hrl => by
        simp only [backC, backO]
        rw [List.getElem?_append_left (by simpa using hrl), List.getElem?_map, List.getElem?_range hrl]
        rfl
      have hst_new : ∀ m, (backC c g c1).st[c.st.length + m]? = (c1.st[g.length + m]?).map (mapO (home g c.st.length)) := fun m => by
        simp only [backC, backO]
        rw [List.getElem?_append_right (by simp)]
        simp
      have hbl_pass : ∀ {r j}, pos g r = some j → (backC c g c1).bl r = c1.bl j := fun {r j} hp => by
        simp only [backC]
        rw [if_pos (hpos hp).2.1, hp]
      have hbl_old : ∀ {r}, r < c.st.length → pos g r = none → (backC c g c1).bl r = c.bl r := fun {r} hrl hp => by
        simp only [backC]
        rw [if_pos hrl, hp]
      have hbl_new : ∀ m, (backC c g c1).bl (c.st.length + m) = c1.bl (g.length + m) := fun m => by
        simp only [backC]
        rw [if_neg (by omega)]
        congr 1; omega
      have hhome : ∀ j ob, c1.st[j]? = some ob → (backC c g c1).st[home g c.st.length j]? = some (mapO (home g c.st.length) ob) ∧ (backC c g c1).bl (home g c.st.length j) = c1.bl j := fun j ob hj => by
        unfold home
        cases hg : g[j]? with
        | some i =>
          have hp := pos_of_get hd hg
          refine ⟨?_, hbl_pass hp⟩
          simp only
          rw [hst_old i (hpos hp).2.1, hp]
          simp only [getD_of hj]
          rfl
        | none =>
          have hge : g.length ≤ j := by
            rcases Nat.lt_or_ge j g.length with q | q
            · rw [List.getElem?_eq_getElem q] at hg; cases hg
            · exact q
          refine ⟨?_, ?_⟩
          · simp only
            rw [hst_new (j - g.length), show g.length + (j - g.length) = j from by omega, hj]
            rfl
          · simp only
            rw [hbl_new (j - g.length), show g.length + (j - g.length) = j from by omega]
      -- each live object behind the call is one of the callee's or one that was not handed over
      have hlive : ∀ r, live (backC c g c1).st r → (∃ j, home g c.st.length j = r ∧ live c1.st j ∧ (backC c g c1).bl r = c1.bl j) ∨ (r < c.st.length ∧ pos g r = none ∧ live c.st r ∧ (backC c g c1).bl r = c.bl r) := by
        intro r hl
        obtain ⟨ob, k1, k2⟩ := live_of' hl
        rcases Nat.lt_or_ge r c.st.length with q | q
        · rw [hst_old r q] at k1
          cases hp : pos g r with
          | some j =>
            rw [hp] at k1
            simp only [Option.some.injEq] at k1
            obtain ⟨hg, _, hjl⟩ := hpos hp
            have hj : c1.st[j]? = some (c1.st[j]'(by omega)) := List.getElem?_eq_getElem (by omega)
            rw [getD_of hj] at k1
            refine .inl ⟨j, by unfold home; rw [hg], live_of hj (fun e => k2 ?_), hbl_pass hp⟩
            rw [← k1, e]; rfl
          | none =>
            rw [hp] at k1
            simp only [Option.some.injEq] at k1
            have hs : c.st[r]? = some (c.st[r]'q) := List.getElem?_eq_getElem q
            rw [getD_of hs] at k1
            exact .inr ⟨q, rfl, live_of hs (fun e => k2 (by rw [← k1, e])), hbl_old q hp⟩
        · obtain ⟨m, rfl⟩ : ∃ m, r = c.st.length + m := ⟨r - c.st.length, by omega⟩
          rw [hst_new m] at k1
          cases hj : c1.st[g.length + m]? with
          | none => rw [hj] at k1; cases k1
          | some ob1 =>
            rw [hj] at k1
            simp only [Option.map_some, Option.some.injEq] at k1
            refine .inl ⟨g.length + m, ?_, live_of hj (fun e => k2 (by rw [← k1, e]; rfl)), hbl_new m⟩
            unfold home
            rw [List.getElem?_eq_none (by omega)]
            simp only
            omega
      have hown : ∀ {b}, Base.may ⟨c.w, c.A, fun b => (∃ i, i ∈ g ∧ live c.st i ∧ c.bl i = some b) ∨ ∃ (i : Nat) (m : Pool) (row : List Int × Nat), i ∈ g ∧ c.st[i]? = some (Ob.pool m) ∧ (b, row) ∈ m⟩ b → w0.may b := fun {b} hm => by
        rcases hm with q | ⟨i, _, k2, k3⟩ | ⟨i, m, row, _, k2, k3⟩
        · have := hr.below.size
          simp only at q
          exact .inl (by omega)
        · exact hr.fresh i b k2 k3
        · exact ((hr.pl.2 i m k2).2 b row k3).1
      have hnot : ∀ {r b}, r < c.st.length → pos g r = none → live c.st r → c.bl r = some b → ¬ Base.may ⟨c.w, c.A, fun b => (∃ i, i ∈ g ∧ live c.st i ∧ c.bl i = some b) ∨ ∃ (i : Nat) (m : Pool) (row : List Int × Nat), i ∈ g ∧ c.st[i]? = some (Ob.pool m) ∧ (b, row) ∈ m⟩ b := fun {r b} hrl hp hl hb hm => by
        rcases hm with q | ⟨i, k1, k2, k3⟩ | ⟨i, m, row, k1, k2, k3⟩
        · have := bl_lt hr hl hb
          simp only at q; omega
        · have := hr.inj i r b k2 hl k3 hb
          subst this
          obtain ⟨j, hj⟩ := List.getElem?_of_mem k1
          rw [pos_of_get hd hj] at hp
          cases hp
        · exact ((hr.pl.2 i m k2).2 b row k3).2.1 r hl hb
      have hx : Ext c (backC c g c1) := {
        size := h2.size
        sub := h2.sub
        cells := h2.cells
        len := by simp [backC, backO]
        keep := fun r ob hrl ho => by
          rw [hst_old r hrl] at ho
          simp only [Option.some.injEq] at ho
          cases hp : pos g r with
          | some j =>
            rw [hp] at ho
            simp only at ho
            obtain ⟨hg, _, hjl⟩ := hpos hp
            have hj : c1.st[j]? = some (c1.st[j]'(by omega)) := List.getElem?_eq_getElem (by omega)
            rw [getD_of hj] at ho
            have hk := h2.keep j _ (by simpa [reD] using hjl) hj
            have hsr : (reD c g).st[j]? = some (renO g (c.st.getD r .dead)) := reD_st hg
            have hrs : c.st[r]? = some (c.st[r]'hrl) := List.getElem?_eq_getElem hrl
            rw [getD_of hrs] at hsr
            cases hob : c1.st[j]'(by omega) with
            | dead => rw [hob] at ho; simp only [mapO] at ho; subst ho; trivial
            | cells cs =>
              rw [hob] at ho hk
              simp only [mapO] at ho
              subst ho
              obtain ⟨⟨cs0, e0⟩, hb0⟩ := hk
              rw [hsr] at e0
              simp only [Option.some.injEq] at e0
              obtain ⟨cs', e'⟩ := renO_cells e0
              exact ⟨⟨cs', by rw [hrs, e']⟩, by rw [hbl_pass hp, hb0, reD_bl hg]⟩
            | pool m =>
              rw [hob] at ho hk
              simp only [mapO] at ho
              subst ho
              obtain ⟨m0, e0⟩ := hk
              rw [hsr] at e0
              simp only [Option.some.injEq] at e0
              exact ⟨m0, by rw [hrs, renO_pool e0]⟩
            | vec t f xs =>
              rw [hob] at ho hk
              simp only [mapO] at ho
              subst ho
              obtain ⟨f0, xs0, e0, hl0, hb0, hrows⟩ := hk
              rw [hsr] at e0
              simp only [Option.some.injEq] at e0
              have e' := renO_vec e0
              refine ⟨f0, xs0, by rw [hrs, e'], hl0, by rw [hbl_pass hp, hb0, reD_bl hg], fun b n hb hrw => hrows b n (by rw [reD_bl hg]; exact hb) hrw⟩
          | none =>
            rw [hp] at ho
            simp only at ho
            have hrs : c.st[r]? = some (c.st[r]'hrl) := List.getElem?_eq_getElem hrl
            rw [getD_of hrs] at ho
            cases ob with
            | dead => trivial
            | cells cs => exact ⟨⟨cs, by rw [hrs, ho]⟩, hbl_old hrl hp⟩
            | pool m => exact ⟨m, by rw [hrs, ho]⟩
            | vec t f xs =>
              refine ⟨f, xs, by rw [hrs, ho], rfl, hbl_old hrl hp, fun b n hb hrw => ?_⟩
              obtain ⟨ce, e, fz, q1, q2⟩ := hrw
              have hl : live c.st r := live_of (hrs.trans (by rw [ho])) (by simp)
              exact ⟨ce, e, fz, (h1.below.block b (hnot hrl hp hl hb)).trans q1, q2⟩ }
      refine ⟨u, mapV (home g c.st.length) v, backC c g c1, rfl, rfl, ?_, hx, mapV_rel (c := c1) (c' := backC c g c1) (h := home g c.st.length) (fun _ _ h => h) rfl (fun j ob hj => (hhome j ob hj).1) (fun j ob hj => (hhome j ob hj).2) v u h3, h4⟩
      exact {
        below := ⟨hr.below.b0.trans h1.below.b0, fun k hk => (h1.below.block k (fun hm => hk (hown hm))).trans (hr.below.block k hk)⟩
        inj := fun r r' b hl hl' hb hb' => by
          rcases hlive r hl with ⟨j, q1, q2, q3⟩ | ⟨q1, q2, q3, q4⟩ <;> rcases hlive r' hl' with ⟨j', s1, s2, s3⟩ | ⟨s1, s2, s3, s4⟩
          · rw [← q1, ← s1, h1.inj j j' b q2 s2 (q3 ▸ hb) (s3 ▸ hb')]
          · exact absurd (h1.fresh j b q2 (q3 ▸ hb)) (hnot s1 s2 s3 (s4 ▸ hb'))
          · exact absurd (h1.fresh j' b s2 (s3 ▸ hb')) (hnot q1 q2 q3 (q4 ▸ hb))
          · exact hr.inj r r' b q3 s3 (q4 ▸ hb) (s4 ▸ hb')
        fresh := fun r b hl hb => by
          rcases hlive r hl with ⟨j, q1, q2, q3⟩ | ⟨q1, q2, q3, q4⟩
          · exact hown (h1.fresh j b q2 (q3 ▸ hb))
          · exact hr.fresh r b q3 (q4 ▸ hb)
        bound := h1.bound
        newA := fun b o hA => by
          rcases h1.newA b o hA with q | q
          · exact hr.newA b o q
          · exact .inr (hown q)
        obj := fun r ob ho => by
          by_cases hdead : ob = .dead
          · subst hdead; trivial
          rcases hlive r (live_of ho hdead) with ⟨j, q1, q2, q3⟩ | ⟨q1, q2, q3, q4⟩
          · obtain ⟨ob1, k1, k2⟩ := live_of' q2
            have hh := (hhome j ob1 k1).1
            rw [q1, ho] at hh
            simp only [Option.some.injEq] at hh
            have hob := h1.obj j ob1 k1
            subst hh
            cases ob1 with
            | dead => trivial
            | cells cs =>
              obtain ⟨b, ce, e, m1, m2, m3, m4⟩ := hob
              exact ⟨b, ce, e, q3.trans m1, m2, mapVs_rel (c := c1) (c' := backC c g c1) (h := home g c.st.length) (fun _ _ h => h) rfl (fun j ob hj => (hhome j ob hj).1) (fun j ob hj => (hhome j ob hj).2) cs _ m3, m4⟩
            | vec t f xs =>
              obtain ⟨m1, m2, m3⟩ := hob
              refine ⟨m1, m2, ?_⟩
              rw [q3]
              exact m3
            | pool m => exact q3.trans hob
          · rw [hst_old r q1, q2] at ho
            simp only [Option.some.injEq] at ho
            have hrs : c.st[r]? = some (c.st[r]'q1) := List.getElem?_eq_getElem q1
            rw [getD_of hrs] at ho
            refine OkOb.keep hx q4 (fun b hb => h1.below.block b (hnot q1 q2 q3 hb)) (fun b o hb hA => ?_) (hr.obj r ob (by rw [hrs, ho]))
            rcases h1.newA b o hA with k | k
            · exact k
            · exact absurd k (hnot q1 q2 q3 hb)
        pl := by
          have hmap : ∀ {f : Nat → Nat} {ob : Ob} {m : Pool}, mapO f ob = .pool m → ob = .pool m := fun {f ob m} e => by
            cases ob <;> simp only [mapO] at e <;> first | exact e | cases e
          have hpool : ∀ (r : Nat) (m : Pool), (backC c g c1).st[r]? = some (Ob.pool m) → ∃ j, home g c.st.length j = r ∧ c1.st[j]? = some (Ob.pool m) := fun r m hm => by
            rcases hlive r (live_of hm (by simp)) with ⟨j, q1, q2, q3⟩ | ⟨q1, q2, q3, q4⟩
            · obtain ⟨ob1, k1, k2⟩ := live_of' q2
              have hh := (hhome j ob1 k1).1
              rw [q1, hm] at hh
              exact ⟨j, q1, by rw [k1, hmap (Option.some.inj hh).symm]⟩
            · rw [hst_old r q1, q2] at hm
              simp only [Option.some.injEq] at hm
              have hrs : c.st[r]? = some (c.st[r]'q1) := List.getElem?_eq_getElem q1
              rw [getD_of hrs] at hm
              have hmem := pools_mem (m := m) (hrs.trans (by rw [hm])) 0
              rw [Nat.zero_add] at hmem
              have hin := hpl r hmem
              obtain ⟨j, hj⟩ := List.getElem?_of_mem (has_mem hin)
              rw [pos_of_get hd hj] at q2
              cases q2
          refine ⟨fun r r' m m' k1 k2 => ?_, fun r m hm => ?_⟩
          · obtain ⟨j, e1, e2⟩ := hpool r m k1
            obtain ⟨j', e1', e2'⟩ := hpool r' m' k2
            rw [← e1, ← e1', h1.pl.1 j j' m m' e2 e2']
          · obtain ⟨j, e1, e2⟩ := hpool r m hm
            obtain ⟨hn, hp⟩ := h1.pl.2 j m e2
            refine ⟨hn, fun b row hb => ?_⟩
            obtain ⟨k1, k2, k3, k4⟩ := hp b row hb
            refine ⟨hown k1, fun r0 l1 l2 => ?_, k3, k4⟩
            rcases hlive r0 l1 with ⟨j0, q1, q2, q3⟩ | ⟨q1, q2, q3, q4⟩
            · exact k2 j0 q2 (q3 ▸ l2)
            · exact hnot q1 q2 q3 (q4 ▸ l2) k1 }
    · exact hc.elim

end Eng
end Go.Proofs.YtkpplfghhciacaaDoor

/-
  Whole functions on abstract values, contracts of functions, and callers that use them. Conditions: none.
-/
import Derived.Test.YtkpplfghhciacaaDoorEngM
set_option linter.unusedVariables false
set_option linter.unusedSimpArgs false
namespace Go.Proofs.YtkpplfghhciacaaDoor
namespace Eng
open Go.RowKit

def resV1 (P : Program) (sl : List V) (st : List Ob) : ResultVar → Option V
  | .tmp t => some (rdv sl [] (.tmp t))
  | .cell a t => aload P st t (rdv sl [] (.tmp a))

def resVs (P : Program) (sl : List V) (st : List Ob) : List ResultVar → Option (List V)
  | [] => some []
  | r :: rs => match resV1 P sl st r, resVs P sl st rs with
    | some v, some vs => some (v :: vs)
    | _, _ => none

def resV (P : Program) (sl : List V) (st : List Ob) (rs : List ResultVar) : Option V :=
  match resVs P sl st rs with
  | some [v] => some v
  | some vs => some (.tup vs)
  | none => none

def resSem (tmps : Array Value) : ResultVar → Sem Value
  | .tmp t => pure (tmps.getD t undef)
  | .cell a t => do loadVar t (← asAddr (tmps.getD a undef))

theorem resV1_sound {P : Program} {w0 : Base} {c : Cfg} (hr : Rel w0 c) {sl : List V} {a : Act} (hs : SlR c sl a.tmps) {r : ResultVar} {v : V} (h : resV1 P sl c.st r = some v) :
    ∃ u, (resSem a.tmps r).run P c.w = .ok u c.w ∧ RelV c v u := by
  cases r with
  | tmp t =>
    simp only [resV1, Option.some.injEq] at h
    subst h
    exact ⟨_, rfl, rdv_rel hs [] (.tmp t) (fun g hg => by simp at hg)⟩
  | cell ad t =>
    simp only [resV1, aload] at h
    have hv := rdv_rel hs [] (.tmp ad) (fun g hg => by simp at hg)
    split at h
    · next vs e =>
      obtain ⟨b, o, us, hu, h1, h2⟩ := cellsAt_sound hr e hv
      obtain ⟨x, h3, h4⟩ := getV_sound (P := P) h h1 h2
      refine ⟨x, ?_, h4⟩
      simp only [Act.eval] at hu
      simp only [resSem, hu, asAddr, Sem.run_bind, Sem.run_pure, Result.andThen_ok, h3]
    · cases h

theorem resVs_sound {P : Program} {w0 : Base} {c : Cfg} (hr : Rel w0 c) {sl : List V} {a : Act} (hs : SlR c sl a.tmps) : ∀ {rs : List ResultVar} {vs : List V}, resVs P sl c.st rs = some vs →
    ∃ us, (rs.mapM (resSem a.tmps)).run P c.w = .ok us c.w ∧ RelVs c vs us
  | [], vs, h => by
    simp only [resVs, Option.some.injEq] at h
    subst h
    exact ⟨[], rfl, RelVs.nil⟩
  | r :: rs, vs, h => by
    simp only [resVs] at h
    split at h
    · next v vs' h1 h2 =>
      cases h
      obtain ⟨u, g1, g2⟩ := resV1_sound (P := P) hr hs h1
      obtain ⟨us, g3, g4⟩ := resVs_sound hr hs h2
      exact ⟨u :: us, by simp only [List.mapM_cons, Sem.run_bind, g1, Result.andThen_ok, g3, Sem.run_pure], RelVs.cons g2 g4⟩
    · cases h

theorem results_eq (fn : Func) (tmps : Array Value) : results fn tmps = (do let vs ← fn.results.mapM (resSem tmps); pure (if h : vs.size = 1 then vs[0] else .tuple vs)) := by
  unfold results
  congr 1

theorem resV_sound {P : Program} {w0 : Base} {c : Cfg} (hr : Rel w0 c) {sl : List V} {a : Act} (hs : SlR c sl a.tmps) {fn : Func} {v : V} (h : resV P sl c.st fn.results.toList = some v) :
    ∃ u, (results fn a.tmps).run P c.w = .ok u c.w ∧ RelV c v u := by
  have key : ∀ vs, resVs P sl c.st fn.results.toList = some vs → ∃ us, (results fn a.tmps).run P c.w = .ok (if h : us.length = 1 then us[0] else .tuple us.toArray) c.w ∧ RelVs c vs us := by
    intro vs hvs
    obtain ⟨us, h1, h2⟩ := resVs_sound (P := P) hr hs hvs
    refine ⟨us, ?_, h2⟩
    rw [results_eq, Sem.run_bind, ← Array.toArray_toList (xs := fn.results), List.mapM_toArray, Sem.run_map, h1]
    simp
  unfold resV at h
  split at h
  · next v' e =>
    cases h
    obtain ⟨us, h1, h2⟩ := key _ e
    simp only [RelVs] at h2
    obtain ⟨u, us', rfl, h3, rfl⟩ := h2
    exact ⟨u, by simpa using h1, h3⟩
  · next vs hne e =>
    cases h
    obtain ⟨us, h1, h2⟩ := key _ e
    have hl := h2.length
    have hn : ¬ us.length = 1 := by
      intro hh
      rw [hh] at hl
      match vs, hl with
      | [x], _ => exact hne x rfl
    rw [dif_neg hn] at h1
    exact ⟨_, h1, by simp only [RelV]; exact ⟨_, rfl, by simpa using h2⟩⟩
  · cases h

/-- A function's whole run. -/
def execF (P : Program) (C : Caller) (D : List Oper → List V → List Ob → St → Prop) (ann : Ann) (fn : Func) (args : List V) (st : List Ob) (K : V → List Ob → Prop) : Prop :=
  match fn.body with
  | some code => exec P C D ann code (args.map nogd ++ List.replicate (fn.ntmps - args.length) .any) st fun e sl' st' => match e with
    | .exit _ => False
    | _ => match resV P sl' st' fn.results.toList with
      | some v => K v st'
      | none => False
  | none => False

theorem fn_sound {P : Program} {w0 : Base} {C : Caller} {D : List Oper → List V → List Ob → St → Prop} (hC : SoundC P C) (hD : SoundD P D) {f : FuncId} {fn : Func} (hf : P.funcs[f]? = some fn) {ann : Ann} {N : Nat} (hk : ∀ code, fn.body = some code → AnnOk P C D N ann code) {c : Cfg} (hn : c.st.length ≤ N) {args : List V} {us : Array Value} {K : V → List Ob → Prop}
    (hr : Rel w0 c) (ha : RelVs c args us.toList) (h : execF P C D ann fn args c.st K) :
    Calls P f us c.w fun e w' => ∃ u v c', e = .returned u ∧ c'.w = w' ∧ Rel w0 c' ∧ Ext c c' ∧ RelV c' v u ∧ K v c'.st := by
  unfold execF at h
  cases hb : fn.body with
  | none => rw [hb] at h; exact h.elim
  | some code =>
    rw [hb] at h
    simp only at h
    refine calls_of_wp hf hb ?_
    have hlen := ha.length
    simp only [Array.length_toList] at hlen
    have hget : ∀ t, (args.map nogd ++ List.replicate (fn.ntmps - args.length) V.any).getD t .any = nogd (args.getD t .any) := by
      intro t
      simp only [List.getD_eq_getElem?_getD, List.getElem?_append, List.length_map, List.getElem?_map, List.getElem?_replicate]
      split
      · next h => rw [List.getElem?_eq_getElem h]; rfl
      · next h =>
        rw [List.getElem?_eq_none (by omega)]
        split <;> rfl
    have hs : SlR c (args.map nogd ++ List.replicate (fn.ntmps - args.length) .any) (us ++ Array.replicate (fn.ntmps - us.size) undef) := by
      refine ⟨by simp; omega, fun t => ?_⟩
      unfold SlotR
      rw [hget]
      split
      · next g w x e => exact absurd e nogd_ne
      · cases hav : args[t]? with
        | none => simp only [List.getD_eq_getElem?_getD, hav, Option.getD_none, nogd, RelV]
        | some v =>
          obtain ⟨u, h1, h2⟩ := ha.get hav
          simp only [Array.getElem?_toList] at h1
          have hlt : t < us.size := (Array.getElem?_eq_some_iff.1 h1).1
          simp only [List.getD_eq_getElem?_getD, hav, Option.getD_some, Array.getD_eq_getD_getElem?, Array.getElem?_append, hlt, if_true, h1]
          exact nogd_rel h2
    refine wp_mono (exec_sound hC hD code ann c c _ { tmps := us ++ Array.replicate (fn.ntmps - us.size) undef, defers := [] } _ hn (hk code hb) hr (Ext.refl c) hs (fun t g w x e => by rw [hget] at e; exact absurd e nogd_ne) rfl h) fun e a' w' hq => ?_
    obtain ⟨ex, sl', c', h1, rfl, h2, h3, h4, h5, h6, h7⟩ := hq
    have fin : (match resV P sl' c'.st fn.results.toList with | some v => K v c'.st | none => False) →
        a'.defers = [] ∧ ∃ v, (results fn a'.tmps).run P c'.w = .ok v c'.w ∧ ∃ u v2 c'', (Ending.returned v) = .returned u ∧ c''.w = c'.w ∧ Rel w0 c'' ∧ Ext c c'' ∧ RelV c'' v2 u ∧ K v2 c''.st := by
      intro hk
      split at hk
      · next v e =>
        obtain ⟨u, g1, g2⟩ := resV_sound (P := P) h2 h4 e
        exact ⟨h6, u, g1, u, v, c', rfl, rfl, h2, h3, g2, hk⟩
      · exact hk.elim
    cases ex with
    | normal =>
      cases e <;> first | exact h1.elim | skip
      exact fin h7
    | exit i => exact h7.elim
    | ret =>
      cases e <;> first | exact h1.elim | skip
      exact fin h7

/-- What a function does, called with data that nobody writes any more: its result, and the rows that it has made. -/
abbrev SemF := List V → (V → List Ob → Prop) → Prop

def cfg0 (w : World) (A : Nat → Nat → Prop) : Cfg := { w := w, bl := fun _ => none, st := [], A := A }

def SoundFn (P : Program) (f : FuncId) (sem : SemF) : Prop :=
  ∀ (w : World) (A : Nat → Nat → Prop) (args : List V) (us : Array Value) (K : V → List Ob → Prop), (∀ b o, A b o → b < w.heap.size) → RelVs (cfg0 w A) args us.toList → sem args K →
    Calls P f us w fun e w' => ∃ u v c', e = .returned u ∧ c'.w = w' ∧ Rel ⟨w, A, fun _ => False⟩ c' ∧ Ext (cfg0 w A) c' ∧ RelV c' v u ∧ K v c'.st

theorem rel0 {w : World} {A : Nat → Nat → Prop} (h : ∀ b o, A b o → b < w.heap.size) : Rel ⟨w, A, fun _ => False⟩ (cfg0 w A) where
  below := Kept.refl _ _ _
  inj := fun r r' b hl => by simp [live, cfg0] at hl
  fresh := fun r b hl => by simp [live, cfg0] at hl
  bound := h
  newA := fun b o h => .inl h
  obj := fun r ob h => by simp [cfg0] at h
  pl := PoolOk.none fun r m h => by simp [cfg0] at h

/-- A function's run, and of its memory the rows in its result alone. -/
def runF (P : Program) (C : Caller) (D : List Oper → List V → List Ob → St → Prop) (ann : Ann) (rs : Rs) (fn : Func) : SemF := fun args K =>
  execF P C D ann fn args [] fun v0 st0 => match ownR rs v0 st0 with
    | (v, st) => match ren (vrefs v) v with
      | some v' => if distinct (vrefs v) = true then if okObs (vrefs v) ((vrefs v).map fun i => st.getD i .dead) = true then K v' ((vrefs v).map fun i => st.getD i .dead) else False else False
      | none => False

theorem runF_sound {P : Program} {C : Caller} {D : List Oper → List V → List Ob → St → Prop} (hC : SoundC P C) (hD : SoundD P D) {f : FuncId} {fn : Func} (hf : P.funcs[f]? = some fn) (ann : Ann) (rs : Rs) (hk : ∀ code, fn.body = some code → AnnOk P C D 0 ann code) : SoundFn P f (runF P C D ann rs fn) := by
  intro w A args us K hA ha h
  refine (fn_sound hC hD hf hk (c := cfg0 w A) (Nat.le_refl 0) (w0 := ⟨w, A, fun _ => False⟩) (rel0 hA) ha h).mono fun e w' hh => ?_
  obtain ⟨u, v0, c0, rfl, rfl, h1, h2, h3, h4⟩ := hh
  obtain ⟨c', e1, e2, g1, g2, g3⟩ := ownR_sound rs v0 c0 h1
  have g4 := g3 u h3
  have h5 := h2.trans g2
  rw [← e1]
  generalize hv : (ownR rs v0 c0.st).1 = v at *
  split at h4
  next v1 st1 heq =>
  have ev : v1 = v := by rw [← hv, heq]
  have es : st1 = c'.st := by rw [e2, heq]
  subst ev es
  split at h4
  · next v' hv' =>
    split at h4
    · next hd =>
      split at h4
      · next hk =>
        exact ⟨u, v', reC c' (vrefs v1), rfl, rfl, re_rel g1 hd hk, re_ext h5 (fun r hr => by simp [cfg0] at hr), ren_rel v1 v' u hv' g4, h4⟩
      · exact h4.elim
    · exact h4.elim
  · exact h4.elim

theorem annOk_leaf {P : Program} {C : Caller} {D : List Oper → List V → List Ob → St → Prop} {N : Nat} : ∀ (code : Code), AnnOk P C D N .leaf code
  | .seq x y => ⟨annOk_leaf x, annOk_leaf y⟩
  | .cond _ x y => ⟨annOk_leaf x, annOk_leaf y⟩
  | .block _ b => by simp only [AnnOk]; exact annOk_leaf b
  | .loop b => by simp only [AnnOk]
  | .skip | .region _ _ _ | .rangeFunc _ _ _ _ | .exit _ | .scope _ | .label _ | .goto _ | .ret | .refuse _ => by simp only [AnnOk]

theorem SoundFn.of_imp {P : Program} {f : FuncId} {sem sem' : SemF} (h : SoundFn P f sem') (hi : ∀ args K, sem args K → sem' args K) : SoundFn P f sem :=
  fun w A args us K hA ha hs => h w A args us K hA ha (hi args K hs)

end Eng
end Go.Proofs.YtkpplfghhciacaaDoor

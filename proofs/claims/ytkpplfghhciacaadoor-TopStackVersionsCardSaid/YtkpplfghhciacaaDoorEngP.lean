/-
  Regions whose order is open: operations that do not meddle with each other may change places. Conditions: none.
-/
import Derived.Test.YtkpplfghhciacaaDoorEngO
import Derived.Orders
set_option linter.unusedVariables false
set_option linter.unusedSimpArgs false
namespace Go.Proofs.YtkpplfghhciacaaDoor
namespace Eng
open Go.RowKit

/-- One operation, and what is done with its value. -/
def R (P : Program) (C : Caller) (G : List Nat) (ops : List Oper) (o : Oper) (sl : List V) (st : List Ob) (kk : V → List Ob → Prop) : Prop :=
  match o.guard with
  | none => aop P C st [] (rdv sl) o.op fun v st' => kk (nogd v) st'
  | some (j, w) => match gslot ops j with
    | none => False
    | some g => match conds sl 8 g w with
      | none => False
      | some (fs, bs) =>
        if G.contains g = true then
          match aval P st fs (rdv sl) o.op, o.dst with
          | some (p, v), some d => if d = g then False else andG bs p (kk (.gd g w (nogd v)) st)
          | _, _ => bif okAll bs then aop P C st fs (rdv sl) o.op fun v st' => kk (nogd v) st' else kk (.x undef) st
        else False

section
variable {P : Program} {C : Caller} {G : List Nat} {ops : List Oper}

theorem aops_cons (o : Oper) (rest : List Oper) (sl : List V) (st : List Ob) (K : St) :
    aops P C G ops (o :: rest) sl st K = R P C G ops o sl st fun v st' => aops P C G ops rest (putS G o.dst v sl) st' K := by
  simp only [aops, R]
  cases hg : o.guard with
  | none => rfl
  | some jw =>
    obtain ⟨j, w⟩ := jw
    simp only
    cases gslot ops j with
    | none => rfl
    | some g =>
      simp only
      cases conds sl 8 g w with
      | none => rfl
      | some fb =>
        obtain ⟨fs, bs⟩ := fb
        simp only
        split
        · cases hd : o.dst with
          | none =>
            cases aval P st fs (rdv sl) o.op with
            | none => simp only
            | some pv => simp only
          | some d =>
            cases aval P st fs (rdv sl) o.op with
            | none => simp only
            | some pv => simp only
        · rfl

theorem astep_sound {w0 : Base} (hC : SoundC P C) {opa : Array Oper} {Q : Exit → Act → World → Prop} {o : Oper} {c : Cfg} {sl : List V} {a : Act} {k : St} (hr : Rel w0 c) (hs : SlR c sl a.tmps) (hg : GdIn G sl)
    (h : R P C G opa.toList o sl c.st fun v st' => k (putS G o.dst v sl) st') {next : Act → World → Prop}
    (hn : ∀ sl' c' a', Rel w0 c' → Ext c c' → SlR c' sl' a'.tmps → GdIn G sl' → a'.defers = a.defers → k sl' c'.st → next a' c'.w) :
    if Region.wanted o (yielded opa a.tmps) = true then o.wp P a c.w next Q else next (a.put o.dst undef) c.w := by
  have hput : ∀ (d : Option Nat) (u : Value), (a.put d u).defers = a.defers := fun d u => by cases d <;> rfl
  have hρ : ∀ gs x, (∀ g, g ∈ gs → a.eval (.tmp g.1) = .bool g.2) → RelV c (rdv sl gs x) (a.eval x) := fun gs x hgs => rdv_rel hs gs x hgs
  have run : ∀ fs : Facts, (∀ g, g ∈ fs → a.eval (.tmp g.1) = .bool g.2) → (aop P C c.st fs (rdv sl) o.op fun v st' => k (putS G o.dst (nogd v) sl) st') → o.wp P a c.w next Q := fun fs hfs h => by
    refine aop_sound hC hr hρ hfs h (fun v c' u h1 h2 h3 h4 => ?_)
    obtain ⟨g1, g2⟩ := putS_rel (a := a) (d := o.dst) (SlR.ext h2 hs) hg (nogd_hv h3)
    exact hn _ c' _ h1 h2 g1 g2 (hput _ _) h4
  simp only [R] at h
  split at h
  · next hgd =>
    have hw : Region.wanted o (yielded opa a.tmps) = true := by simp [Region.wanted, hgd]
    rw [if_pos hw]
    exact run [] (fun g hh => by simp at hh) h
  · next j w hgd =>
    split at h
    · exact h.elim
    · next g hgs =>
      have hwi := wanted_iff (tmps := a.tmps) hgd hgs
      split at h
      · exact h.elim
      · next fs bs hc =>
        obtain ⟨c1, c2⟩ := conds_sound hs 8 g w fs bs hc
        split at h
        · next hG =>
          have hGm : g ∈ G := by simpa using hG
          split at h
          · next p v d hv hd =>
            split at h
            · exact h.elim
            · next hne =>
              obtain ⟨hp, hk⟩ := andG_out h
              have next' : ∀ u, (a.tmps.getD g undef = .bool w → RelV c v u) → (a.tmps.getD g undef ≠ .bool w → u = undef) → next (a.put o.dst u) c.w := by
                intro u hu1 hu2
                obtain ⟨g1, g2⟩ := putS_rel (a := a) (d := some d) (v := .gd g w (nogd v)) (u := u) hs hg ⟨hGm, fun e => hne (by cases e; rfl), fun e => nogd_rel (hu1 e), hu2⟩
                rw [hd] at hk ⊢
                exact hn _ c _ hr (Ext.refl c) g1 g2 (hput _ _) hk
              by_cases hw : Region.wanted o (yielded opa a.tmps) = true
              · rw [if_pos hw]
                have hgw := hwi.1 hw
                obtain ⟨u, h1, h2⟩ := aval_sound (P := P) hr hρ (c2 hgw) hv (hp (c1.1 hgw))
                exact wp_value h1 (next' u (fun _ => h2) (fun e => absurd hgw e))
              · rw [if_neg hw]
                exact next' undef (fun e => absurd (hwi.2 e) hw) (fun _ => rfl)
          · by_cases hw : Region.wanted o (yielded opa a.tmps) = true
            · rw [if_pos hw]
              have hgw := hwi.1 hw
              rw [c1.1 hgw] at h
              exact run fs (c2 hgw) h
            · rw [if_neg hw]
              have hall : okAll bs = false := by
                cases hb : okAll bs with
                | false => rfl
                | true => exact absurd (hwi.2 (c1.2 hb)) hw
              rw [hall] at h
              obtain ⟨g1, g2⟩ := putS_rel (a := a) (d := o.dst) (v := .x undef) (u := undef) hs hg (by simp only [RelV])
              exact hn _ c _ hr (Ext.refl c) g1 g2 (hput _ _) h
        · exact h.elim

end

/-- A call by a contract whose result is plain: memory stays as it was. -/
def callS (sem : SemF) (args : List V) (st : List Ob) (K : V → List Ob → Prop) : Prop :=
  lendK args st fun args' => sem args' fun v obs => match obs with
    | [] => bif flatV v then K (shiftV st.length v) st else False
    | _ => False

/-- Upward closed. -/
def Cs (Γ : Ctx) : Caller := fun f args st K => match Γ f with
  | some sem => ∃ k0 : V → Prop, (∀ v, k0 v → K v st) ∧ callS sem args st fun v _ => k0 v
  | none => False

theorem Cs_sound {P : Program} {Γ : Ctx} (hG : SoundG P Γ) : SoundC P (Cs Γ) := by
  intro w0 c f args us K hr ha h
  simp only [Cs] at h
  split at h
  · next sem hs =>
    obtain ⟨k0, hk, h⟩ := h
    unfold callS at h
    obtain ⟨args', he, h⟩ := lendK_sound hr ha h
    refine (hG f sem hs c.w _ args' us _ (fun b o hb => hb) he h).mono fun e w' hh => ?_
    obtain ⟨u, v, c1, rfl, rfl, h1, h2, h3, h4⟩ := hh
    split at h4
    · next hobs =>
      cases hfl : flatV v with
      | false => rw [hfl] at h4; exact h4.elim
      | true =>
        rw [hfl] at h4
        obtain ⟨g1, g2⟩ := join_rel hr h1 (by rw [hobs]; rfl)
        exact ⟨u, _, joinC c c1, rfl, rfl, g1, g2, shiftV_rel v u hfl h3, by simp only [joinC, hobs, List.append_nil]; exact hk _ h4⟩
    · exact h4.elim
  · exact h.elim

theorem Cs_mono {Γ : Ctx} {f : FuncId} {args : List V} {st : List Ob} {K K' : V → List Ob → Prop} (hk : ∀ v st', K v st' → K' v st') (h : Cs Γ f args st K) : Cs Γ f args st K' := by
  simp only [Cs] at *
  split at h
  · obtain ⟨k0, h1, h2⟩ := h
    exact ⟨k0, fun v hv => hk _ _ (h1 v hv), h2⟩
  · exact h

theorem Cs_still {Γ : Ctx} {f : FuncId} {args : List V} {st : List Ob} {K : V → List Ob → Prop} (h : Cs Γ f args st K) : Cs Γ f args st fun v st' => st' = st ∧ K v st' := by
  simp only [Cs] at *
  split at h
  · obtain ⟨k0, h1, h2⟩ := h
    exact ⟨k0, fun v hv => ⟨trivial, h1 v hv⟩, h2⟩
  · exact h

/-- A caller, closed upward. -/
def up (C : Caller) : Caller := fun f args st K => ∃ k0 : V → List Ob → Prop, (∀ v st', k0 v st' → K v st') ∧ C f args st k0

theorem up_sound {P : Program} {C : Caller} (hC : SoundC P C) : SoundC P (up C) := by
  intro w0 c f args us K hr ha h
  obtain ⟨k0, hk, h⟩ := h
  refine (hC w0 c f args us k0 hr ha h).mono fun e w' hh => ?_
  obtain ⟨u, v, c', h1, h2, h3, h4, h5, h6⟩ := hh
  exact ⟨u, v, c', h1, h2, h3, h4, h5, hk _ _ h6⟩

/-- Types without slices, pointers and the like. -/
def flatTy (P : Program) : Nat → TypeId → Bool
  | 0, _ => false
  | n + 1, t => match P.underlying t with
    | some (.int _) => true
    | some .bool => true
    | some .string => true
    | some (.struct fs) => fs.toList.all fun f => flatTy P n f.type
    | some (.array _ e) => flatTy P n e
    | _ => false

/-- A function with a contract whose results are plain: memory stays as it was. -/
def stillF (P : Program) (Γ : Ctx) (f : FuncId) : Bool := (Γ f).isSome && (match P.funcs[f]? with
  | some fn => fn.resultTypes.toList.all (flatTy P 12)
  | none => false)

/-- Calls that leave memory alone by their contracts; all others by C, closed upward. -/
def Cx (P : Program) (C : Caller) (Γ : Ctx) : Caller := fun f args st K => if stillF P Γ f = true then Cs Γ f args st K else up C f args st K

theorem Cx_sound {P : Program} {C : Caller} (hC : SoundC P C) {Γ : Ctx} (hG : SoundG P Γ) : SoundC P (Cx P C Γ) := by
  intro w0 c f args us K hr ha h
  unfold Cx at h
  split at h
  · exact Cs_sound hG w0 c f args us K hr ha h
  · exact up_sound hC w0 c f args us K hr ha h

theorem Cx_mono {P : Program} {C : Caller} {Γ : Ctx} {f : FuncId} {args : List V} {st : List Ob} {K K' : V → List Ob → Prop} (hk : ∀ v st', K v st' → K' v st') (h : Cx P C Γ f args st K) : Cx P C Γ f args st K' := by
  unfold Cx at *
  split
  · next e => rw [if_pos e] at h; exact Cs_mono hk h
  · next e =>
    rw [if_neg e] at h
    obtain ⟨k0, h1, h2⟩ := h
    exact ⟨k0, fun v st' hv => hk _ _ (h1 v st' hv), h2⟩

theorem Cx_still {P : Program} {C : Caller} {Γ : Ctx} {f : FuncId} {args : List V} {st : List Ob} {K : V → List Ob → Prop} (hf : stillF P Γ f = true) (h : Cx P C Γ f args st K) : Cx P C Γ f args st fun v st' => st' = st ∧ K v st' := by
  unfold Cx at *
  rw [if_pos hf] at *
  exact Cs_still h

/-- Operations that do not look at memory. -/
def pureK : Op → Bool
  | .slice _ _ _ _ none => true
  | .build _ _ | .nilCheck _ | .fieldAddr _ _ _ => true
  | .move _ | .assign _ | .binOp _ _ _ _ _ | .unOp _ _ _ | .convert _ _ _ | .makeFunc _ _ _ | .field _ _ _ | .index _ _ _ | .extract _ _ => true
  | .pick (.tmp _) _ _ => true
  | _ => false

/-- Operations with a value of their own, that leave memory as it was. -/
def detK (o : Op) : Bool := pureK o || match o with
  | .load _ _ | .indexAddr _ _ _ => true
  | .call { callee := .builtin .len, .. } => true
  | .call { callee := .builtin .max, .. } => true
  | .call { callee := .builtin .min, .. } => true
  | _ => false

/-- Operations that leave memory as it was. -/
def stillK (P : Program) (Γ : Ctx) (o : Op) : Bool := detK o || match o with
  | .call { callee := .value (.func f), .. } => stillF P Γ f
  | _ => false

section
variable {P : Program} {C : Caller} {Γ : Ctx} {G : List Nat} {ops : List Oper}

/-- What the one caller does the other does too. -/
def CLe (C1 C2 : Caller) : Prop := ∀ f args st (K K' : V → List Ob → Prop), (∀ v st', K v st' → K' v st') → C1 f args st K → C2 f args st K'

theorem bif_mono {b : Bool} {q q' : Prop} (hq : q → q') (h : bif b then q else False) : bif b then q' else False := by
  cases b with
  | true => exact hq h
  | false => exact h

theorem pappQ_mono {st : List Ob} {p : Nat} {m : Pool} {h : Hd} {ys : List Int} {k k' : V → List Ob → Prop} (hk : ∀ v st', k v st' → k' v st') (hq : pappQ st p m h ys k) : pappQ st p m h ys k' := by
  unfold pappQ at *
  refine ⟨hq.1, hq.2.1, ?_⟩
  have h3 := hq.2.2
  cases hc : Nat.ble (h.n + ys.length) h.c with
  | true => rw [hc] at h3; exact hk _ _ h3
  | false => rw [hc] at h3; exact fun b cap g1 g2 => hk _ _ (h3 b cap g1 g2)

theorem aeff_le {C1 C2 : Caller} (hC : CLe C1 C2) {st : List Ob} {fs : Facts} {ρ : Facts → Operand → V} {o : Op} {k k' : V → List Ob → Prop} (hk : ∀ v st', k v st' → k' v st') (h : aeff P C1 st fs ρ o k) : aeff P C2 st fs ρ o k' := by
  have handO : ∀ (p : Option Prop) v st', andO p (k v st') → andO p (k' v st') := fun p v st' h => by
    cases p with
    | none => exact hk _ _ h
    | some p => exact ⟨h.1, hk _ _ h.2⟩
  have hst : ∀ st t a x, storeK P st t a x k → storeK P st t a x k' := fun st t a x h => by
    unfold storeK at *
    split at h
    · exact hk _ _ h
    · exact h
  have hpap : ∀ st ts a b, pappK P st ts a b k → pappK P st ts a b k' := fun st ts a b h => by
    unfold pappK at *
    split at h
    · split at h
      · exact bif_mono (pappQ_mono hk) h
      · exact h
    · exact h
  cases o with
  | pick c a b =>
    cases c with
    | tmp s =>
      simp only [aeff] at *
      split at h
      · next t _ => cases t <;> exact hk _ _ h
      · exact h
    | _ => simp [aeff] at h
  | alloc t => simp only [aeff] at *; split at h <;> first | exact hk _ _ h | exact h
  | box t x => simp only [aeff] at *; split at h <;> first | exact hk _ _ h | exact h
  | buildSlice t l p => simp only [aeff] at *; split at h <;> first | exact hk _ _ h | exact h
  | makeSlice t l c => simp only [aeff] at *; split at h <;> first | exact handO _ _ _ h | exact h
  | store t a x =>
    simp only [aeff] at *
    split at h
    · exact ⟨fun e => hst _ _ _ _ (h.1 e), fun b cap g1 g2 => hst _ _ _ _ (h.2 b cap g1 g2)⟩
    · split at h
      · exact hk _ _ h
      · split at h
        · exact handO _ _ _ h
        · split at h
          · exact handO _ _ _ h
          · exact h
  | call cl =>
    obtain ⟨callee, args, ts⟩ := cl
    cases callee with
    | builtin b =>
      cases b <;> first | (simp [aeff] at h; done) | skip
      all_goals
        simp only [aeff] at *
        split at h
        · split at h <;> first | exact handO _ _ _ h | exact hk _ _ h | exact hpap _ _ _ _ h | skip
          all_goals (split at h <;> first | exact handO _ _ _ h | exact h)
        · exact h
    | value f =>
      simp only [aeff] at *
      split at h
      · next g first captured e =>
        split at h
        · next hc => rw [if_pos hc]; exact hC _ _ _ _ _ hk h
        · exact h.elim
      · exact h.elim
    | _ => simp [aeff] at h
  | _ => simp [aeff] at h

theorem aop_le {C1 C2 : Caller} (hC : CLe C1 C2) {st : List Ob} {fs : Facts} {ρ : Facts → Operand → V} {o : Op} {k k' : V → List Ob → Prop} (hk : ∀ v st', k v st' → k' v st') (h : aop P C1 st fs ρ o k) : aop P C2 st fs ρ o k' := by
  unfold aop at *
  split at h
  · next p v _ =>
    cases p with
    | none => exact hk _ _ h
    | some p => exact ⟨h.1, hk _ _ h.2⟩
  · exact aeff_le hC hk h

theorem R_le {C1 C2 : Caller} (hC : CLe C1 C2) {o : Oper} {sl : List V} {st : List Ob} {k k' : V → List Ob → Prop} (hk : ∀ v st', k v st' → k' v st') (h : R P C1 G ops o sl st k) : R P C2 G ops o sl st k' := by
  cases hg : o.guard with
  | none => simp only [R, hg] at *; exact aop_le hC (fun v st' h => hk _ _ h) h
  | some jw =>
    obtain ⟨j, w⟩ := jw
    cases hgs : gslot ops j with
    | none => simp [R, hg, hgs] at h
    | some g =>
      cases hc : conds sl 8 g w with
      | none => simp [R, hg, hgs, hc] at h
      | some fb =>
        obtain ⟨fs, bs⟩ := fb
        by_cases hG : G.contains g = true
        · have alt : (bif okAll bs then aop P C1 st fs (rdv sl) o.op (fun v st' => k (nogd v) st') else k (.x undef) st) →
              (bif okAll bs then aop P C2 st fs (rdv sl) o.op (fun v st' => k' (nogd v) st') else k' (.x undef) st) := by
            cases okAll bs with
            | true => exact aop_le hC (fun v st' h => hk _ _ h)
            | false => exact hk _ _
          cases hd : o.dst with
          | none =>
            cases hv : aval P st fs (rdv sl) o.op with
            | none => simp only [R, hg, hgs, hc, hG, if_true, hd, hv] at *; exact alt h
            | some pv => simp only [R, hg, hgs, hc, hG, if_true, hd, hv] at *; exact alt h
          | some d =>
            cases hv : aval P st fs (rdv sl) o.op with
            | none => simp only [R, hg, hgs, hc, hG, if_true, hd, hv] at *; exact alt h
            | some pv =>
              obtain ⟨p, v⟩ := pv
              by_cases hdg : d = g
              · simp [R, hg, hgs, hc, hG, hd, hv, hdg] at h
              · simp only [R, hg, hgs, hc, hG, if_true, hd, hv, if_neg hdg] at *
                cases p with
                | none => exact hk _ _ h
                | some p => exact ⟨h.1, hk _ _ h.2⟩
        · simp only [R, hg, hgs, hc, if_neg hG] at h

theorem Cs_le : CLe (Cx P C Γ) (Cx P C Γ) := fun _ _ _ _ _ hk h => Cx_mono hk h

theorem aop_mono {st : List Ob} {fs : Facts} {ρ : Facts → Operand → V} {o : Op} {k k' : V → List Ob → Prop} (hk : ∀ v st', k v st' → k' v st') (h : aop P (Cx P C Γ) st fs ρ o k) : aop P (Cx P C Γ) st fs ρ o k' := aop_le Cs_le hk h

theorem R_mono {o : Oper} {sl : List V} {st : List Ob} {k k' : V → List Ob → Prop} (hk : ∀ v st', k v st' → k' v st') (h : R P (Cx P C Γ) G ops o sl st k) : R P (Cx P C Γ) G ops o sl st k' := R_le Cs_le hk h

/-- The same, without the closure: for reckoning. -/
def Cs0 (Γ : Ctx) : Caller := fun f args st K => match Γ f with
  | some sem => callS sem args st K
  | none => False
def Cx0 (P : Program) (C : Caller) (Γ : Ctx) : Caller := fun f args st K => if stillF P Γ f = true then Cs0 Γ f args st K else C f args st K

theorem Cs0_le : CLe (Cs0 Γ) (Cs Γ) := by
  intro f args st K K' hk h
  simp only [Cs0, Cs] at *
  split at h
  · exact ⟨fun v => K v st, fun v hv => hk v st hv, h⟩
  · exact h.elim

theorem Cx0_le : CLe (Cx0 P C Γ) (Cx P C Γ) := by
  intro f args st K K' hk h
  unfold Cx0 at h
  unfold Cx
  split
  · next e => rw [if_pos e] at h; exact Cs0_le f args st K K' hk h
  · next e => rw [if_neg e] at h; exact ⟨K, hk, h⟩

theorem aops_le {C1 C2 : Caller} (hC : CLe C1 C2) : ∀ (l : List Oper) (sl : List V) (st : List Ob) (K : St), aops P C1 G ops l sl st K → aops P C2 G ops l sl st K
  | [], _, _, _, h => h
  | o :: l, sl, st, K, h => by
    rw [aops_cons] at *
    exact R_le hC (fun v st' h => aops_le hC l _ _ K h) h

theorem aops_mono : ∀ (l : List Oper) (sl : List V) (st : List Ob) (K K' : St), (∀ sl st, K sl st → K' sl st) → aops P (Cx P C Γ) G ops l sl st K → aops P (Cx P C Γ) G ops l sl st K'
  | [], _, _, _, _, hk, h => hk _ _ h
  | o :: l, sl, st, K, K', hk, h => by
    rw [aops_cons] at *
    exact R_mono (fun v st' h => aops_mono l _ _ K K' hk h) h

/-- A value of its own, under a condition. -/
def Det (P : Program) (C : Caller) (Γ : Ctx) (G : List Nat) (ops : List Oper) (o : Oper) (sl : List V) (st : List Ob) (p : Prop) (v : V) : Prop :=
  ∀ kk, R P (Cx P C Γ) G ops o sl st kk ↔ (p ∧ kk v st)

theorem aop_det {st : List Ob} {fs : Facts} {ρ : Facts → Operand → V} {o : Op} (h : detK o = true) : ∃ (p : Prop) (v : V), ∀ kk : V → List Ob → Prop, aop P (Cx P C Γ) st fs ρ o kk ↔ (p ∧ kk v st) := by
  cases hv : aval P st fs ρ o with
  | some pv =>
    obtain ⟨p, v⟩ := pv
    refine ⟨vc p, v, fun kk => ?_⟩
    unfold aop
    rw [hv]
    cases p with
    | none => simp [andO, vc]
    | some p => simp [andO, vc]
  | none =>
    have hf : ∀ kk : V → List Ob → Prop, aop P (Cx P C Γ) st fs ρ o kk = aeff P (Cx P C Γ) st fs ρ o kk := fun kk => by unfold aop; rw [hv]
    simp only [hf]
    cases o with
    | pick c a b =>
      cases c with
      | tmp s =>
        simp only [aeff]
        split
        · next t _ =>
          cases t
          · exact ⟨True, _, fun kk => by simp; rfl⟩
          · exact ⟨True, _, fun kk => by simp; rfl⟩
        · exact ⟨False, .any, fun kk => by simp⟩
      | _ => simp [detK, pureK] at h
    | call cl =>
      obtain ⟨callee, args, ts⟩ := cl
      cases callee with
      | builtin b => cases b <;> first | (simp [detK, pureK] at h; done) | exact ⟨False, .any, fun kk => by simp [aeff]⟩
      | _ => simp [detK, pureK] at h
    | _ => first | (simp [detK, pureK] at h; done) | exact ⟨False, .any, fun kk => by simp [aeff]⟩

theorem R_det {o : Oper} (h : detK o.op = true) (sl : List V) (st : List Ob) : ∃ p v, Det P C Γ G ops o sl st p v := by
  unfold Det
  cases hg : o.guard with
  | none =>
    obtain ⟨p, v, hpv⟩ := aop_det (P := P) (C := C) (Γ := Γ) (st := st) (fs := []) (ρ := rdv sl) h
    exact ⟨p, nogd v, fun kk => by simp only [R, hg]; exact hpv _⟩
  | some jw =>
    obtain ⟨j, w⟩ := jw
    cases hgs : gslot ops j with
    | none => exact ⟨False, .any, fun kk => by simp [R, hg, hgs]⟩
    | some g =>
      cases hc : conds sl 8 g w with
      | none => exact ⟨False, .any, fun kk => by simp [R, hg, hgs, hc]⟩
      | some fb =>
        obtain ⟨fs, bs⟩ := fb
        by_cases hG : G.contains g = true
        · have alt : ∃ (p : Prop) (v : V), ∀ kk : V → List Ob → Prop, (bif okAll bs then aop P (Cx P C Γ) st fs (rdv sl) o.op (fun v st' => kk (nogd v) st') else kk (.x undef) st) ↔ (p ∧ kk v st) := by
            cases okAll bs with
            | true =>
              obtain ⟨p, v, hpv⟩ := aop_det (P := P) (C := C) (Γ := Γ) (st := st) (fs := fs) (ρ := rdv sl) h
              exact ⟨p, nogd v, fun kk => hpv _⟩
            | false => exact ⟨True, .x undef, fun kk => by simp⟩
          cases hd : o.dst with
          | none =>
            obtain ⟨p, v, hpv⟩ := alt
            refine ⟨p, v, fun kk => ?_⟩
            rw [← hpv kk]
            cases hv : aval P st fs (rdv sl) o.op with
            | none => simp only [R, hg, hgs, hc, hG, if_true, hd, hv]
            | some pv => simp only [R, hg, hgs, hc, hG, if_true, hd, hv]
          | some d =>
            cases hv : aval P st fs (rdv sl) o.op with
            | none =>
              obtain ⟨p, v, hpv⟩ := alt
              refine ⟨p, v, fun kk => ?_⟩
              rw [← hpv kk]
              simp only [R, hg, hgs, hc, hG, if_true, hd, hv]
            | some pv =>
              obtain ⟨p, v⟩ := pv
              by_cases hdg : d = g
              · exact ⟨False, .any, fun kk => by simp [R, hg, hgs, hc, hG, hd, hv, hdg]⟩
              · cases p with
                | none => exact ⟨True, .gd g w (nogd v), fun kk => by simp only [R, hg, hgs, hc, hG, if_true, hd, hv, if_neg hdg, andG, true_and]⟩
                | some p => exact ⟨imps bs p, .gd g w (nogd v), fun kk => by simp only [R, hg, hgs, hc, hG, if_true, hd, hv, if_neg hdg, andG]⟩
        · exact ⟨False, .any, fun kk => by simp only [R, hg, hgs, hc, if_neg hG, false_and]⟩

end

end Eng
end Go.Proofs.YtkpplfghhciacaaDoor

/-
  Regions in the order of the text, with the guards' values kept where a guarded operation has split the way. Conditions: none.
-/
import Derived.Test.YtkpplfghhciacaaDoorEngK
set_option linter.unusedVariables false
set_option linter.unusedSimpArgs false
namespace Go.Proofs.YtkpplfghhciacaaDoor
namespace Eng
open Go.RowKit

/-- Slots of which it is known that they hold this boolean, or none. -/
abbrev Kn := List (Nat × Option Bool)

def KnIs (v : Value) : Option Bool → Prop
  | some w => v = .bool w
  | none => ∀ w, v ≠ .bool w

def KnR (kn : Kn) (tmps : Array Value) : Prop := ∀ p, p ∈ kn → KnIs (tmps.getD p.1 undef) p.2

def look : Kn → Nat → Option (Option Bool)
  | [], _ => none
  | (g, x) :: r, h => if g = h then some x else look r h

theorem look_mem : ∀ {kn : Kn} {g : Nat} {x : Option Bool}, look kn g = some x → (g, x) ∈ kn
  | [], g, x, h => by simp [look] at h
  | (g', x') :: r, g, x, h => by
    simp only [look] at h
    split at h
    · next e => subst e; cases h; exact List.mem_cons_self
    · exact List.mem_cons_of_mem _ (look_mem h)

def forget (d : Option Nat) (kn : Kn) : Kn := match d with
  | none => kn
  | some d => kn.filter fun p => p.1 != d

theorem forget_rel {kn : Kn} {a : Act} (h : KnR kn a.tmps) (d : Option Nat) (u : Value) : KnR (forget d kn) (a.put d u).tmps := by
  cases d with
  | none => exact h
  | some d =>
    intro p hp
    simp only [forget, List.mem_filter, bne_iff_ne, ne_eq] at hp
    have := h p hp.1
    simp only [Act.put]
    rw [arr_getD_set, if_neg (fun e => hp.2 e.1.symm)]
    exact this

def learn (d : Option Nat) (kn : Kn) : Kn := match d with
  | none => kn
  | some d => (d, none) :: forget (some d) kn

theorem learn_rel {kn : Kn} {a : Act} (h : KnR kn a.tmps) (d : Option Nat) : KnR (learn d kn) (a.put d undef).tmps := by
  cases d with
  | none => exact h
  | some d =>
    intro p hp
    rcases List.mem_cons.1 hp with rfl | hp
    · simp only [Act.put]
      intro w
      rw [arr_getD_set]
      split
      · simp [undef]
      · next hn =>
        have : a.tmps.getD d undef = undef := by
          rw [Array.getD_eq_getD_getElem?, Array.getElem?_eq_none (by
            by_cases hh : d < a.tmps.size
            · exact absurd ⟨rfl, hh⟩ hn
            · omega)]
          rfl
        rw [this]
        simp [undef]
    · exact forget_rel h (some d) undef p hp

/-- Slots under a guard whose value is known. -/
def rsV (g : Nat) (x : Option Bool) : V → V
  | .gd g' w v => if g' = g then (match x with
      | some b => bif b == w then nogd v else .any
      | none => .any) else .gd g' w v
  | v => v

def res (g : Nat) (x : Option Bool) (sl : List V) : List V := match x with
  | some b => (sl.map (rsV g x)).set g (.x (.bool b))
  | none => sl.map (rsV g x)

theorem rsV_rel {c : Cfg} {g : Nat} {x : Option Bool} {sl : List V} {tmps : Array Value} (h : SlR c sl tmps) (hx : KnIs (tmps.getD g undef) x) (t : Nat) : match rsV g x (sl.getD t .any) with
  | .gd g w v => (tmps.getD g undef = .bool w → RelV c v (tmps.getD t undef)) ∧ (tmps.getD g undef ≠ .bool w → tmps.getD t undef = undef)
  | v => RelV c v (tmps.getD t undef) := by
  have hs := h.slot t
  unfold SlotR at hs
  cases hh : sl.getD t .any with
  | gd g' w v =>
    rw [hh] at hs
    simp only [rsV]
    by_cases e : g' = g
    · rw [if_pos e]
      subst e
      cases x with
      | none => simp only [RelV]
      | some b =>
        simp only [KnIs] at hx
        simp only
        by_cases hb : b = w
        · subst hb
          have := nogd_rel (hs.1 hx)
          simp only [beq_self_eq_true, cond_true]
          split
          · next e => exact absurd e nogd_ne
          · exact this
        · have : (b == w) = false := by simp [hb]
          rw [this]
          simp only [cond_false, RelV]
    · rw [if_neg e]
      exact hs
  | _ => rw [hh] at hs; simpa only [rsV] using hs

theorem getD_map_rsV (l : List V) (g : Nat) (x : Option Bool) (t : Nat) : (l.map (rsV g x)).getD t .any = rsV g x (l.getD t .any) := by
  simp only [List.getD_eq_getElem?_getD, List.getElem?_map]
  cases l[t]? <;> rfl

theorem res_rel {c : Cfg} {G : List Nat} {g : Nat} {x : Option Bool} {sl : List V} {tmps : Array Value} (h : SlR c sl tmps) (hg : GdIn G sl) (hx : KnIs (tmps.getD g undef) x) : SlR c (res g x sl) tmps ∧ GdIn G (res g x sl) := by
  have h1 : SlR c (sl.map (rsV g x)) tmps := ⟨by simpa using h.len, fun t => by
    unfold SlotR
    rw [getD_map_rsV]
    exact rsV_rel h hx t⟩
  have h2 : GdIn G (sl.map (rsV g x)) := fun t g' w v e => by
    rw [getD_map_rsV] at e
    cases hh : sl.getD t .any with
    | gd g'' w' v' =>
      rw [hh] at e
      simp only [rsV] at e
      split at e
      · cases x with
        | none => cases e
        | some b =>
          simp only at e
          by_cases hb : (b == w') = true
          · rw [hb] at e; exact absurd e nogd_ne
          · rw [Bool.eq_false_iff.2 hb] at e; cases e
      · cases e; exact hg t _ _ _ hh
    | _ => rw [hh] at e; simp [rsV] at e
  cases x with
  | none => exact ⟨h1, h2⟩
  | some b =>
    refine ⟨⟨by simpa [res] using h.len, fun t => ?_⟩, fun t g' w v e => ?_⟩
    · unfold SlotR
      simp only [res]
      rw [getD_set]
      by_cases e : g = t ∧ g < (sl.map (rsV g (some b))).length
      · rw [if_pos e, ← e.1]
        simp only [RelV]
        exact hx
      · rw [if_neg e]
        exact h1.slot t
    · simp only [res] at e
      rw [getD_set] at e
      split at e
      · cases e
      · exact h2 t g' w v e

/-- Two ways, told by a boolean. -/
def br (b w : Bool) (p q : Prop) : Prop := match w with
  | true => bif b then p else q
  | false => bif b then q else p

theorem br_out {b w : Bool} {p q : Prop} (h : br b w p q) : (b = w ∧ p) ∨ (b = !w ∧ q) := by
  cases w <;> cases b <;> simp_all [br]

/-- The way splits at a guard, and at the guards that it hangs on. -/
def split (Kt Kf : Kn → List V → Prop) : Nat → Nat → Bool → Kn → List V → Prop
  | 0, _, _, _, _ => False
  | n + 1, g, w, kn, sl => match look kn g with
    | some (some b) => bif b == w then Kt kn sl else Kf kn sl
    | some none => Kf kn sl
    | none => match sl.getD g .any with
      | .x (.bool b) => br b w (Kt ((g, some w) :: kn) (res g (some w) sl)) (Kf ((g, some (!w)) :: kn) (res g (some (!w)) sl))
      | .gd g' w' (.x (.bool b)) => split (fun kn sl => br b w (Kt ((g, some w) :: kn) (res g (some w) sl)) (Kf ((g, some (!w)) :: kn) (res g (some (!w)) sl)))
          (fun kn sl => Kf ((g, none) :: kn) (res g none sl)) n g' w' kn sl
      | _ => False

theorem knR_cons {kn : Kn} {tmps : Array Value} (h : KnR kn tmps) {g : Nat} {x : Option Bool} (hx : KnIs (tmps.getD g undef) x) : KnR ((g, x) :: kn) tmps := fun p hp => by
  rcases List.mem_cons.1 hp with rfl | hp
  · exact hx
  · exact h p hp

theorem split_sound {c : Cfg} {G : List Nat} {tmps : Array Value} : ∀ (n g : Nat) (w : Bool) (Kt Kf : Kn → List V → Prop) (kn : Kn) (sl : List V), SlR c sl tmps → GdIn G sl → KnR kn tmps → split Kt Kf n g w kn sl →
    ∃ kn' sl', SlR c sl' tmps ∧ GdIn G sl' ∧ KnR kn' tmps ∧ ((tmps.getD g undef = .bool w ∧ Kt kn' sl') ∨ (tmps.getD g undef ≠ .bool w ∧ Kf kn' sl'))
  | 0, g, w, Kt, Kf, kn, sl, hs, hg, hk, h => by simp [split] at h
  | n + 1, g, w, Kt, Kf, kn, sl, hs, hg, hk, h => by
    simp only [split] at h
    have leaf : ∀ (b : Bool) (kn : Kn) (sl : List V), SlR c sl tmps → GdIn G sl → KnR kn tmps → tmps.getD g undef = .bool b →
        br b w (Kt ((g, some w) :: kn) (res g (some w) sl)) (Kf ((g, some (!w)) :: kn) (res g (some (!w)) sl)) →
        ∃ kn' sl', SlR c sl' tmps ∧ GdIn G sl' ∧ KnR kn' tmps ∧ ((tmps.getD g undef = .bool w ∧ Kt kn' sl') ∨ (tmps.getD g undef ≠ .bool w ∧ Kf kn' sl')) := by
      intro b kn sl hs hg hk hb h
      rcases br_out h with ⟨rfl, h⟩ | ⟨rfl, h'⟩
      · have hx : KnIs (tmps.getD g undef) (some b) := hb
        obtain ⟨h1, h2⟩ := res_rel hs hg hx
        exact ⟨_, _, h1, h2, knR_cons hk hx, .inl ⟨hb, h⟩⟩
      · have hx : KnIs (tmps.getD g undef) (some (!w)) := hb
        obtain ⟨h1, h2⟩ := res_rel hs hg hx
        exact ⟨_, _, h1, h2, knR_cons hk hx, .inr ⟨by rw [hb]; simp, h'⟩⟩
    split at h
    · next b hl =>
      have hb := hk _ (look_mem hl)
      simp only [KnIs] at hb
      refine ⟨kn, sl, hs, hg, hk, ?_⟩
      by_cases e : b = w
      · subst e
        simp only [beq_self_eq_true, cond_true] at h
        exact .inl ⟨hb, h⟩
      · have : (b == w) = false := by simp [e]
        rw [this] at h
        exact .inr ⟨by rw [hb]; simpa using e, h⟩
    · next hl =>
      have hb : KnIs _ none := hk _ (look_mem hl)
      exact ⟨kn, sl, hs, hg, hk, .inr ⟨hb w, h⟩⟩
    · next hl =>
      have hsg := hs.slot g
      unfold SlotR at hsg
      split at h
      · next b e =>
        rw [e] at hsg
        simp only [RelV] at hsg
        exact leaf b kn sl hs hg hk hsg h
      · next g' w' b e =>
        rw [e] at hsg
        simp only [RelV] at hsg
        obtain ⟨kn', sl', k1, k2, k3, h⟩ := split_sound n g' w' _ _ kn sl hs hg hk h
        rcases h with ⟨h1, h⟩ | ⟨h1, h⟩
        · exact leaf b kn' sl' k1 k2 k3 (hsg.1 h1) h
        · have hu := hsg.2 h1
          have hx : KnIs (tmps.getD g undef) none := fun w => by rw [hu]; simp [undef]
          obtain ⟨r1, r2⟩ := res_rel k1 k2 hx
          exact ⟨_, _, r1, r2, knR_cons k3 hx, .inr ⟨hx w, h⟩⟩
      · exact h.elim

/-- A slice held against nil: how many elements there are, and whether the answer is turned round. -/
def nilCmp (P : Program) (st : List Ob) (sl : List V) : Op → Option (Nat × Bool)
  | .binOp op t x (.const (.slice none 0 0)) _ => match P.underlying t with
    | some (.slice _) => match (match op with | .eql => some false | .neq => some true | _ => none) with
      | some neg => match rdv sl [] x with
        | .ro _ xs => some (xs.length, neg)
        | .vec r => match st[r]? with
          | some (.vec _ _ xs) => some (xs.length, neg)
          | _ => none
        | .x (.slice none 0 0) => some (0, neg)
        | _ => none
      | none => none
    | _ => none
  | _ => none

/-- One operation; of a slice without elements it is open whether it is nil. -/
def aopN (P : Program) (C : Caller) (st : List Ob) (sl : List V) (op : Op) (k : V → List Ob → Prop) : Prop := match nilCmp P st sl op with
  | some (n, neg) => ∀ b : Bool, (n ≠ 0 → b = false) → k (.x (.bool (bif neg then !b else b))) st
  | none => aop P C st [] (rdv sl) op k

theorem run_equalNil {P : Program} {t e : TypeId} (ht : P.underlying t = some (.slice e)) (a : Option Addr) (l cap : Nat) (w : World) :
    (Op.equal t (.slice a l cap) (.slice none 0 0)).run P w = .ok a.isNone w := by
  show (Op.equalIn (9999 + 1) t (.slice a l cap) (.slice none 0 0)).run P w = _
  unfold Op.equalIn
  cases a <;> simp [run_underlying ht]

theorem run_nilCmp {P : Program} {op : BinOp} {neg : Bool} (ho : (match op with | .eql => some false | .neq => some true | _ => none) = some neg) {t e : TypeId} (ht : P.underlying t = some (.slice e)) (x y : Operand) (a : Option Addr) (l cap : Nat) (w : World) :
    ((do eqGuard op t x y (.slice a l cap) (.slice none 0 0); binOp op t (.slice a l cap) (.slice none 0 0) : Sem Value)).run P w = .ok (.bool (bif neg then !a.isNone else a.isNone)) w := by
  cases op <;> first | (cases ho; done) | skip
  · cases ho
    have h1 : (eqGuard .eql t x y (.slice a l cap) (.slice none 0 0)).run P w = .ok () w := rfl
    have h2 : binOp .eql t (.slice a l cap) (.slice none 0 0) = (do pure (.bool (← Op.equal t (.slice a l cap) (.slice none 0 0)))) := by unfold binOp; rfl
    rw [Sem.run_bind, h1, Result.andThen_ok, h2, Sem.run_bind, run_equalNil ht]
    rfl
  · cases ho
    have h1 : (eqGuard .neq t x y (.slice a l cap) (.slice none 0 0)).run P w = .ok () w := rfl
    have h2 : binOp .neq t (.slice a l cap) (.slice none 0 0) = (do pure (.bool (!(← Op.equal t (.slice a l cap) (.slice none 0 0))))) := by unfold binOp; rfl
    rw [Sem.run_bind, h1, Result.andThen_ok, h2, Sem.run_bind, run_equalNil ht]
    rfl

/-- A part of a row of the run's own. -/
def viewOf (r : Nat) (len : Nat) (lo hi : Option V) : Option (Option Prop × V) := match lo, hi with
  | none, none => some (none, .vw r 0 len)
  | some (.x (.int _ l)), none => some (some (0 ≤ l ∧ l ≤ len), .vw r l.toNat (len - l.toNat))
  | none, some (.x (.int _ h)) => some (some (0 ≤ h ∧ h ≤ len), .vw r 0 h.toNat)
  | some (.x (.int _ l)), some (.x (.int _ h)) => some (some (0 ≤ l ∧ l ≤ h ∧ h ≤ len), .vw r l.toNat (h.toNat - l.toNat))
  | _, _ => none

def vwSlice (P : Program) (st : List Ob) (sl : List V) : Op → Option (Option Prop × V)
  | .slice t x lo hi none => match P.underlying t, rdv sl [] x with
    | some (.slice e), .vec r => match P.info? e, st[r]? with
      | some inf, some (.vec τ _ xs) => if inf.size = τ.size then viewOf r xs.length (lo.map (rdv sl [])) (hi.map (rdv sl [])) else none
      | _, _ => none
    | _, _ => none
  | _ => none

theorem sliced_vw {w0 : Base} {c : Cfg} (hr : Rel w0 c) {r : Nat} {τ : Ty} {f : Nat} {xs : List τ.den} (hst : c.st[r]? = some (.vec τ f xs)) {a : Option Addr} {len cap l h : Nat} (hx : RelV c (.vec r) (.slice a len cap)) (h1 : l ≤ h) (h2 : h ≤ xs.length) :
    RelV c (.vw r l (h - l)) (sliced a l h cap τ.size) := by
  simp only [RelV, hst] at hx ⊢
  refine ⟨by omega, ?_⟩
  obtain ⟨hp, _, ⟨hn, rfl⟩ | ⟨b', ce, e, cap', g1, g2, g3, g4, _⟩⟩ := hr.obj r _ hst
  · rcases hx with ⟨_, e⟩ | ⟨b, cap0, hb, _⟩
    · cases e
      simp only [List.length_nil] at h2
      obtain rfl : h = 0 := by omega
      obtain rfl : l = 0 := by omega
      exact .inl ⟨hn, by simp [sliced]⟩
    · rw [hn] at hb; cases hb
  · rcases hx with ⟨hb, _⟩ | ⟨b, cap0, hb, e, hrows⟩
    · rw [g1] at hb; cases hb
    rw [g1] at hb; cases hb
    cases e
    have hcap : cap = cap' := by
      obtain ⟨ce', e', fz, k1, k2⟩ := hrows
      rw [g2] at k1; cases k1
      exact Nat.eq_of_mul_eq_mul_right hp (by omega)
    subst hcap
    by_cases hcl : cap = l
    · have hh : h - l = 0 := by omega
      by_cases hl0 : l = 0
      · subst hl0
        refine .inr (.inl ⟨b', 0, g1, ?_, by omega, ?_⟩)
        · subst hcl; simp [sliced, hh, Addr.add]
        · subst hcl; simpa using hrows
      · exact .inr (.inr ⟨hh, by omega, ⟨b', 0, none⟩, by simp [sliced, hcl, hh]⟩)
    · refine .inr (.inl ⟨b', cap - l, g1, by simp [sliced, hcl, add_addr], by omega, ?_⟩)
      rw [show l + (cap - l) = cap from by omega]
      exact hrows

theorem vwSlice_sound {P : Program} {w0 : Base} {c : Cfg} (hr : Rel w0 c) {sl : List V} {a : Act} (hs : SlR c sl a.tmps) {o : Oper} {p : Option Prop} {v : V} (h : vwSlice P c.st sl o.op = some (p, v)) (hp : vc p) :
    ∃ u, (execOp a.eval o).run P c.w = .ok (.value u) c.w ∧ RelV c v u := by
  obtain ⟨dst, op, ty, pos, after, guard⟩ := o
  have hx : ∀ x, RelV c (rdv sl [] x) (a.eval x) := fun x => rdv_rel hs [] x (fun g hg => by simp at hg)
  unfold vwSlice at h
  simp only at h
  split at h
  · next t x lo hi =>
    split at h
    · next e r hu er =>
      split at h
      · next inf τ f xs hinf hst =>
        split at h
        · next hsz =>
          have hxx := hx x
          rw [er] at hxx
          have hel : P.elem t = e := by simp [Program.elem, hu]
          have hu' : P.underlying t = some (.slice (P.elem t)) := by rw [hel]; exact hu
          have hszr : ∀ w, (sizeOf (P.elem t)).run P w = .ok τ.size w := fun w => by rw [hel, run_sizeOf' hinf, hsz]
          obtain ⟨ad, len, cap, hv, hlen, hcap⟩ : ∃ ad len cap, a.eval x = .slice ad len cap ∧ len = xs.length ∧ len ≤ cap := by
            have h0 := hxx
            simp only [RelV, hst] at h0
            obtain ⟨hp', _, ⟨hn, rfl⟩ | ⟨b', ce, e, cap', g1, g2, g3, g4, _⟩⟩ := hr.obj r _ hst
            · rcases h0 with ⟨_, e⟩ | ⟨b, cap0, hb, _⟩
              · exact ⟨_, _, _, e, rfl, Nat.le_refl _⟩
              · rw [hn] at hb; cases hb
            · rcases h0 with ⟨hb, _⟩ | ⟨b, cap0, hb, e, ce', e', fz, k1, k2⟩
              · rw [g1] at hb; cases hb
              · rw [g1] at hb; cases hb
                rw [g2] at k1; cases k1
                refine ⟨_, _, _, e, rfl, ?_⟩
                have := Nat.eq_of_mul_eq_mul_right hp' (g3.symm.trans k2)
                omega
          rw [hv] at hxx
          have fin : ∀ (u : Value) (lo' hi' : Option Value), lo' = lo.map a.eval → hi' = hi.map a.eval → (Instr.sliceAt t (.slice ad len cap) lo' hi' none).run P c.w = .ok u c.w → (execOp a.eval ⟨dst, .slice t x lo hi none, ty, pos, after, guard⟩).run P c.w = .ok (.value u) c.w := by
            intro u lo' hi' e1 e2 hrun
            subst e1; subst e2
            simp only [execOp, Option.map_none, hv, Sem.run_bind, hrun, Result.andThen_ok, Sem.run_pure]
          unfold viewOf at h
          split at h
          · next e1 e2 =>
            cases h
            obtain rfl : lo = none := by cases lo <;> simp_all
            obtain rfl : hi = none := by cases hi <;> simp_all
            refine ⟨_, fin _ none none rfl rfl (by rw [run_sliceAt_slice c.w t _ _ _ _ hu', run_slice_all c.w t ad len cap hu', hszr]; rfl), ?_⟩
            have := sliced_vw hr hst hxx (l := 0) (h := xs.length) (by omega) (Nat.le_refl _)
            simpa [hlen] using this
          · next k l e1 e2 =>
            cases h
            simp only [vc] at hp
            obtain ⟨y, rfl, hy⟩ : ∃ y, lo = some y ∧ rdv sl [] y = .x (.int k l) := by cases lo <;> simp_all
            obtain rfl : hi = none := by cases hi <;> simp_all
            have hy2 := hx y
            rw [hy] at hy2
            simp only [RelV] at hy2
            refine ⟨_, fin _ (some (.int k l)) none (by simp [hy2]) rfl (by rw [run_sliceAt_slice c.w t _ _ _ _ hu', run_slice_l c.w t ad len cap hu' _ _ hp.1 (by omega), hszr]; rfl), ?_⟩
            have := sliced_vw hr hst hxx (l := l.toNat) (h := xs.length) (by omega) (Nat.le_refl _)
            simpa [hlen] using this
          · next k m e1 e2 =>
            cases h
            simp only [vc] at hp
            obtain rfl : lo = none := by cases lo <;> simp_all
            obtain ⟨y, rfl, hy⟩ : ∃ y, hi = some y ∧ rdv sl [] y = .x (.int k m) := by cases hi <;> simp_all
            have hy2 := hx y
            rw [hy] at hy2
            simp only [RelV] at hy2
            refine ⟨_, fin _ none (some (.int k m)) rfl (by simp [hy2]) (by rw [run_sliceAt_slice c.w t _ _ _ _ hu', run_slice_h c.w t ad len cap hu' _ _ hp.1 (by omega), hszr]; rfl), ?_⟩
            have := sliced_vw hr hst hxx (l := 0) (h := m.toNat) (by omega) (by omega)
            simpa [hlen] using this
          · next k l k' m e1 e2 =>
            cases h
            simp only [vc] at hp
            obtain ⟨y, rfl, hy⟩ : ∃ y, lo = some y ∧ rdv sl [] y = .x (.int k l) := by cases lo <;> simp_all
            obtain ⟨z, rfl, hz⟩ : ∃ y, hi = some y ∧ rdv sl [] y = .x (.int k' m) := by cases hi <;> simp_all
            have hy2 := hx y
            rw [hy] at hy2
            have hz2 := hx z
            rw [hz] at hz2
            simp only [RelV] at hy2 hz2
            refine ⟨_, fin _ (some (.int k l)) (some (.int k' m)) (by simp [hy2]) (by simp [hz2]) (by rw [run_sliceAt_slice c.w t _ _ _ _ hu', run_slice_lh c.w t ad len cap hu' _ _ _ _ hp.1 hp.2.1 (by omega), hszr]; rfl), ?_⟩
            exact sliced_vw hr hst hxx (l := l.toNat) (h := m.toNat) (by omega) (by omega)
          · cases h
        · cases h
      · cases h
    · cases h
  · cases h

/-- One operation; parts of rows of the run's own are views. -/
def aopW (P : Program) (C : Caller) (st : List Ob) (sl : List V) (op : Op) (k : V → List Ob → Prop) : Prop := match vwSlice P st sl op with
  | some (p, v) => andO p (k v st)
  | none => aopN P C st sl op k

def aopsK (P : Program) (C : Caller) (G : List Nat) (ops : List Oper) : List Oper → Kn → List V → List Ob → (List V → List Ob → Prop) → Prop
  | [], _, sl, st, K => K sl st
  | o :: rest, kn, sl, st, K => forceL sl fun sl =>
    match o.guard with
    | none => aopW P C st sl o.op fun v st' => aopsK P C G ops rest (forget o.dst kn) (putS G o.dst (nogd v) sl) st' K
    | some (j, w) => match gslot ops j with
      | none => False
      | some g => match look kn g with
        | some (some b) => bif b == w then aopW P C st sl o.op fun v st' => aopsK P C G ops rest (forget o.dst kn) (putS G o.dst (nogd v) sl) st' K
            else aopsK P C G ops rest (learn o.dst kn) (putS G o.dst .any sl) st K
        | some none => aopsK P C G ops rest (learn o.dst kn) (putS G o.dst .any sl) st K
        | none => match conds sl 8 g w with
          | none => False
          | some (fs, bs) =>
            if G.contains g = true then
              match aval P st fs (rdv sl) o.op, o.dst with
              | some (p, v), some d => if d = g then False else andG bs p (aopsK P C G ops rest (forget (some d) kn) (putS G (some d) (.gd g w (nogd v)) sl) st K)
              | _, _ => split (fun kn sl => aopW P C st sl o.op fun v st' => aopsK P C G ops rest (forget o.dst kn) (putS G o.dst (nogd v) sl) st' K)
                  (fun kn sl => aopsK P C G ops rest (learn o.dst kn) (putS G o.dst .any sl) st K) 8 g w kn sl
            else False

theorem aopsK_sound {P : Program} {w0 : Base} {C : Caller} (hC : SoundC P C) {G : List Nat} {ops : Array Oper} {Q : Exit → Act → World → Prop} :
    ∀ (l : List Oper) (c : Cfg) (kn : Kn) (sl : List V) (a : Act) (K : List V → List Ob → Prop), Rel w0 c → SlR c sl a.tmps → GdIn G sl → KnR kn a.tmps → aopsK P C G ops.toList l kn sl c.st K →
      (∀ sl' c' a', Rel w0 c' → Ext c c' → SlR c' sl' a'.tmps → GdIn G sl' → a'.defers = a.defers → K sl' c'.st → Q .normal a' c'.w) → wpList P ops Q l a c.w
  | [], c, kn, sl, a, K, hr, hs, hg, hkn, h, hK => hK sl c a hr (Ext.refl c) hs hg rfl h
  | o :: rest, c, kn, sl, a, K, hr, hs, hg, hkn, h, hK => by
    have hput : ∀ (d : Option Nat) (u : Value), (a.put d u).defers = a.defers := fun d u => by cases d <;> rfl
    have run : ∀ (kn : Kn) (sl : List V), SlR c sl a.tmps → GdIn G sl → KnR kn a.tmps → (aopW P C c.st sl o.op fun v st' => aopsK P C G ops.toList rest (forget o.dst kn) (putS G o.dst (nogd v) sl) st' K) →
        o.wp P a c.w (wpList P ops Q rest) Q := fun kn sl hs hg hkn h => by
      unfold aopW at h
      split at h
      · next p v hv =>
        obtain ⟨hp, hk⟩ := andO_split h
        obtain ⟨u, h1, h2⟩ := vwSlice_sound hr hs hv hp
        refine wp_value h1 ?_
        obtain ⟨g1, g2⟩ := putS_rel (a := a) (d := o.dst) hs hg (nogd_hv h2)
        exact aopsK_sound hC rest c _ _ _ K hr g1 g2 (forget_rel hkn _ _) hk fun sl' c'' a' k1 k2 k3 k4 k5 k6 => hK sl' c'' a' k1 k2 k3 k4 (k5.trans (hput _ _)) k6
      rename_i hvn
      clear hvn
      unfold aopN at h
      split at h
      · next n neg hn =>
        obtain ⟨dst, op, ty, pos, after, guard⟩ := o
        simp only at hn h
        unfold nilCmp at hn
        split at hn
        · next op t x yt =>
          split at hn
          · next e ht =>
            split at hn
            · next neg' ho =>
              have hxv := rdv_rel hs [] x (fun g hh => by simp at hh)
              have key : ∀ (n' : Nat) (ad : Option Addr) (l cap : Nat), a.eval x = .slice ad l cap → (n' ≠ 0 → ad.isNone = false) → n' = n → neg' = neg → Oper.wp P ⟨dst, .binOp op t x (.const (.slice none 0 0)) yt, ty, pos, after, guard⟩ a c.w (wpList P ops Q rest) Q := by
                intro n' ad l cap hev hn' e1 e2
                subst e1 e2
                have hk := h ad.isNone hn'
                have hrun : (execOp a.eval ⟨dst, .binOp op t x (.const (.slice none 0 0)) yt, ty, pos, after, guard⟩).run P c.w = .ok (.value (.bool (bif neg' then !ad.isNone else ad.isNone))) c.w := by
                  have := run_nilCmp ho ht x (.const (.slice none 0 0)) ad l cap c.w
                  simp only [execOp, hev]
                  simp only [Act.eval]
                  rw [Sem.run_bind, this]
                  rfl
                refine wp_value hrun ?_
                have hv0 : RelV c (.x (.bool (bif neg' then !ad.isNone else ad.isNone))) (.bool (bif neg' then !ad.isNone else ad.isNone)) := by simp only [RelV]
                obtain ⟨g1, g2⟩ := putS_rel (a := a) (d := dst) hs hg (nogd_hv (G := G) (d := dst) (a := a) hv0)
                exact aopsK_sound hC rest c _ _ _ K hr g1 g2 (forget_rel hkn _ _) hk fun sl' c'' a' k1 k2 k3 k4 k5 k6 => hK sl' c'' a' k1 k2 k3 k4 (k5.trans (hput _ _)) k6
              split at hn
              · next t' xs er =>
                cases hn
                rw [er] at hxv
                simp only [RelV, RoV, SlV] at hxv
                rcases hxv with ⟨h1, rfl⟩ | ⟨b, o, sp, cap, h1, _⟩
                · simp only [List.cons.injEq, and_true] at h1
                  exact key _ none 0 0 h1 (fun hh => absurd rfl hh) rfl rfl
                · simp only [List.cons.injEq, and_true] at h1
                  exact key _ _ _ _ h1 (fun _ => rfl) rfl rfl
              · next r er =>
                rw [er] at hxv
                split at hn
                · next t' f xs hst =>
                  cases hn
                  simp only [RelV, hst] at hxv
                  rcases hxv with ⟨h1, h2⟩ | ⟨b, cap, h1, h2, _⟩
                  · obtain ⟨_, _, ⟨_, rfl⟩ | ⟨b', ce, ty', cap, hb', _⟩⟩ := hr.obj r _ hst
                    · exact key _ none 0 0 h2 (fun hh => absurd rfl hh) rfl rfl
                    · rw [h1] at hb'; cases hb'
                  · exact key _ _ _ _ h2 (fun _ => rfl) rfl rfl
                · cases hn
              · next er =>
                cases hn
                rw [er] at hxv
                simp only [RelV] at hxv
                exact key _ none 0 0 hxv (fun hh => absurd rfl hh) rfl rfl
              · cases hn
            · cases hn
          · cases hn
        · cases hn
      refine aop_sound hC hr (fun gs x hgs => rdv_rel hs gs x hgs) (fun g hh => by simp at hh) h (fun v c' u h1 h2 h3 h4 => ?_)
      obtain ⟨g1, g2⟩ := putS_rel (a := a) (d := o.dst) (SlR.ext h2 hs) hg (nogd_hv h3)
      refine aopsK_sound hC rest c' _ _ _ K h1 g1 g2 (forget_rel hkn _ _) h4 fun sl' c'' a' k1 k2 k3 k4 k5 k6 => hK sl' c'' a' k1 (h2.trans k2) k3 k4 (k5.trans (hput _ _)) k6
    have skip : ∀ (kn : Kn) (sl : List V), SlR c sl a.tmps → GdIn G sl → KnR kn a.tmps → aopsK P C G ops.toList rest (learn o.dst kn) (putS G o.dst .any sl) c.st K →
        wpList P ops Q rest (a.put o.dst undef) c.w := fun kn sl hs hg hkn h => by
      obtain ⟨g1, g2⟩ := putS_rel (a := a) (d := o.dst) (v := .any) (u := undef) hs hg (by simp only [RelV])
      exact aopsK_sound hC rest c _ _ _ K hr g1 g2 (learn_rel hkn _) h fun sl' c'' a' k1 k2 k3 k4 k5 k6 => hK sl' c'' a' k1 k2 k3 k4 (k5.trans (hput _ _)) k6
    unfold wpList
    simp only [aopsK, forceL_eq] at h
    split at h
    · next hgd =>
      have hw : Region.wanted o (yielded ops a.tmps) = true := by simp [Region.wanted, hgd]
      rw [if_pos hw]
      exact .inl (run kn sl hs hg hkn h)
    · next j w hgd =>
      split at h
      · exact h.elim
      · next g hgs =>
        have hwi := wanted_iff (tmps := a.tmps) hgd hgs
        split at h
        · next b hl =>
          have hb := hkn _ (look_mem hl)
          simp only [KnIs] at hb
          by_cases e : b = w
          · subst e
            rw [if_pos (hwi.2 hb)]
            simp only [beq_self_eq_true, cond_true] at h
            exact .inl (run kn sl hs hg hkn h)
          · have e2 : (b == w) = false := by simp [e]
            rw [e2] at h
            rw [if_neg (fun hw => by have := hwi.1 hw; rw [hb] at this; exact e (by simpa using this))]
            exact skip kn sl hs hg hkn h
        · next hl =>
          have hb : KnIs _ none := hkn _ (look_mem hl)
          rw [if_neg (fun hw => hb w (hwi.1 hw))]
          exact skip kn sl hs hg hkn h
        · next hl =>
          split at h
          · exact h.elim
          · next fs bs hc =>
            obtain ⟨c1, c2⟩ := conds_sound hs 8 g w fs bs hc
            split at h
            · next hG =>
              have hGm : g ∈ G := by simpa using hG
              split at h
              · next p v d hv hd =>
                split at h
                · exact h.elim
                · next hne =>
                  obtain ⟨hp, hk⟩ := andG_out h
                  have next' : ∀ u, (a.tmps.getD g undef = .bool w → RelV c v u) → (a.tmps.getD g undef ≠ .bool w → u = undef) → wpList P ops Q rest (a.put o.dst u) c.w := by
                    intro u hu1 hu2
                    obtain ⟨g1, g2⟩ := putS_rel (a := a) (d := some d) (v := .gd g w (nogd v)) (u := u) hs hg ⟨hGm, fun e => hne (by cases e; rfl), fun e => nogd_rel (hu1 e), hu2⟩
                    rw [hd]
                    exact aopsK_sound hC rest c _ _ _ K hr g1 g2 (forget_rel hkn _ _) hk fun sl' c'' a' k1 k2 k3 k4 k5 k6 => hK sl' c'' a' k1 k2 k3 k4 (k5.trans (hput _ _)) k6
                  by_cases hw : Region.wanted o (yielded ops a.tmps) = true
                  · rw [if_pos hw]
                    have hgw := hwi.1 hw
                    obtain ⟨u, h1, h2⟩ := aval_sound (P := P) hr (fun gs x hgs => rdv_rel hs gs x hgs) (c2 hgw) hv (hp (c1.1 hgw))
                    exact .inl (wp_value h1 (next' u (fun _ => h2) (fun e => absurd hgw e)))
                  · rw [if_neg hw]
                    exact next' undef (fun e => absurd (hwi.2 e) hw) (fun _ => rfl)
              · obtain ⟨kn', sl', k1, k2, k3, h⟩ := split_sound 8 g w _ _ kn sl hs hg hkn h
                rcases h with ⟨hw, h⟩ | ⟨hw, h⟩
                · rw [if_pos (hwi.2 hw)]
                  exact .inl (run kn' sl' k1 k2 k3 h)
                · rw [if_neg (fun e => hw (hwi.1 e))]
                  exact skip kn' sl' k1 k2 k3 h
            · exact h.elim

end Eng
end Go.Proofs.YtkpplfghhciacaaDoor

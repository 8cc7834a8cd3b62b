/-
  Regions in the order of the text: slots, guards, and the soundness of a list of operations. Conditions: none.
-/
import Derived.Test.YtkpplfghhciacaaDoorEngJ
set_option linter.unusedVariables false
set_option linter.unusedSimpArgs false
namespace Go.Proofs.YtkpplfghhciacaaDoor
namespace Eng
open Go.RowKit

/-- A value reckoned out to its head. -/
def forceV : V → (V → Prop) → Prop
  | .any, k => k .any
  | .x v, k => k (.x v)
  | .ro t xs, k => k (.ro t xs)
  | .rc cs j, k => k (.rc cs j)
  | .cl r i, k => k (.cl r i)
  | .el r i j, k => k (.el r i j)
  | .vec r, k => k (.vec r)
  | .vw r l n, k => k (.vw r l n)
  | .agg cs, k => k (.agg cs)
  | .tup cs, k => k (.tup cs)
  | .fn f a b, k => k (.fn f a b)
  | .gd g w v, k => k (.gd g w v)
  | .hd h, k => k (.hd h)
  | .pt a i, k => k (.pt a i)

theorem forceV_eq (v : V) (k : V → Prop) : forceV v k = k v := by
  cases v <;> rfl

/-- A list of values reckoned out. -/
def forceL : List V → (List V → Prop) → Prop
  | [], k => k []
  | v :: vs, k => forceV v fun v => forceL vs fun r => k (v :: r)

theorem forceL_eq : ∀ (l : List V) (k : List V → Prop), forceL l k = k l
  | [], _ => rfl
  | v :: vs, k => by rw [forceL, forceV_eq, forceL_eq vs]

def SlotR (c : Cfg) (sl : List V) (tmps : Array Value) (t : Nat) : Prop :=
  match sl.getD t .any with
  | .gd g w v => (tmps.getD g undef = .bool w → RelV c v (tmps.getD t undef)) ∧ (tmps.getD g undef ≠ .bool w → tmps.getD t undef = undef)
  | v => RelV c v (tmps.getD t undef)

structure SlR (c : Cfg) (sl : List V) (tmps : Array Value) : Prop where
  len : sl.length ≤ tmps.size
  slot : ∀ t, SlotR c sl tmps t

/-- The guards of the guarded slots are among these. -/
def GdIn (G : List Nat) (sl : List V) : Prop := ∀ t g w v, sl.getD t .any = .gd g w v → g ∈ G

theorem SlR.ext {c c' : Cfg} (hx : Ext c c') {sl : List V} {tmps : Array Value} (h : SlR c sl tmps) : SlR c' sl tmps where
  len := h.len
  slot := fun t => by
    have := h.slot t
    unfold SlotR at this ⊢
    split
    · next g w v e =>
      rw [e] at this
      exact ⟨fun hg => RelV.ext hx _ _ (this.1 hg), this.2⟩
    · next hn =>
      split at this
      · next g w v e => exact absurd e (hn g w v)
      · exact RelV.ext hx _ _ this

def nogd : V → V
  | .gd _ _ _ => .any
  | v => v

theorem nogd_rel {c : Cfg} {v : V} {u : Value} (h : RelV c v u) : RelV c (nogd v) u := by
  cases v <;> first | exact h | simp only [nogd, RelV]

theorem nogd_ne {v : V} {g : Nat} {w : Bool} {x : V} : nogd v ≠ .gd g w x := by
  cases v <;> simp [nogd]

def ungd (d : Nat) : V → V
  | .gd g w v => if g = d then .any else .gd g w v
  | v => v

def cst : Value → V
  | .agg cs => .agg (cs.toList.map .x)
  | v => .x v

theorem cst_rel {c : Cfg} (v : Value) : RelV c (cst v) v := by
  cases v <;> first | (simp only [cst, RelV]; done) | skip
  simp only [cst, RelV]
  exact ⟨_, rfl, RelVs.map_x _⟩

/-- What a slot or a constant reads as, where these guards hold. -/
def rdv (sl : List V) (fs : Facts) : Operand → V
  | .tmp t => match sl.getD t .any with
    | .gd g w v => if fs.any (fun f => f.1 == g && f.2 == w) = true then v else .any
    | v => v
  | .const v => cst v
  | .func f => .fn (.func f) [] []
  | .global _ => .any

theorem rdv_rel {c : Cfg} {sl : List V} {a : Act} (h : SlR c sl a.tmps) (fs : Facts) (x : Operand) (hfs : ∀ g, g ∈ fs → a.eval (.tmp g.1) = .bool g.2) : RelV c (rdv sl fs x) (a.eval x) := by
  cases x with
  | tmp t =>
    have := h.slot t
    unfold SlotR at this
    simp only [rdv, Act.eval]
    split at this
    · next g w v e =>
      split
      · next hany =>
        rw [List.any_eq_true] at hany
        obtain ⟨f, hf, he⟩ := hany
        simp only [Bool.and_eq_true, beq_iff_eq] at he
        have := hfs f hf
        simp only [Act.eval] at this
        rw [he.1, he.2] at this
        rename_i hh
        exact hh.1 this
      · simp only [RelV]
    · exact this
  | const v => exact cst_rel v
  | global g => simp only [rdv, RelV]
  | func f =>
    simp only [rdv, RelV, Act.eval]
    exact ⟨#[], #[], rfl, RelVs.nil, RelVs.nil⟩

/-- Conditions under which a guard holds. -/
def conds (sl : List V) : Nat → Nat → Bool → Option (Facts × List (Bool × Bool))
  | 0, _, _ => none
  | n + 1, g, w => match sl.getD g .any with
    | .x (.bool b) => some ([(g, w)], [(b, w)])
    | .x (.tuple _) => some ([(g, w)], [(false, true)])
    | .gd g' w' (.x (.bool b)) => match conds sl n g' w' with
      | some (fs, bs) => some ((g, w) :: fs, bs ++ [(b, w)])
      | none => none
    | .gd g' w' (.x (.tuple _)) => match conds sl n g' w' with
      | some (fs, bs) => some ((g, w) :: fs, bs ++ [(false, true)])
      | none => none
    | _ => none

def okAll (bs : List (Bool × Bool)) : Bool := bs.all fun p => p.1 == p.2

theorem undef_ne_bool (b : Bool) : undef ≠ .bool b := by simp [undef]

theorem conds_sound {c : Cfg} {sl : List V} {tmps : Array Value} (h : SlR c sl tmps) : ∀ (n g : Nat) (w : Bool) (fs : Facts) (bs : List (Bool × Bool)), conds sl n g w = some (fs, bs) →
    (tmps.getD g undef = .bool w ↔ okAll bs = true) ∧ (tmps.getD g undef = .bool w → ∀ f, f ∈ fs → tmps.getD f.1 undef = .bool f.2)
  | 0, g, w, fs, bs, hc => by simp [conds] at hc
  | n + 1, g, w, fs, bs, hc => by
    have hs := h.slot g
    unfold SlotR at hs
    simp only [conds] at hc
    split at hc
    · next b e =>
      cases hc
      rw [e] at hs
      simp only [RelV] at hs
      refine ⟨?_, fun hg f hf => ?_⟩
      · rw [hs]
        simp [okAll]
      · simp only [List.mem_singleton] at hf
        subst hf
        exact hg
    · next u e =>
      cases hc
      rw [e] at hs
      simp only [RelV] at hs
      exact ⟨⟨fun hg => (by rw [hs] at hg; cases hg), fun hall => (by simp [okAll] at hall)⟩, fun hg => (by rw [hs] at hg; cases hg)⟩
    · next g' w' b e =>
      split at hc
      · next fs' bs' hc' =>
        cases hc
        rw [e] at hs
        simp only [RelV] at hs
        obtain ⟨h1, h2⟩ := conds_sound h n g' w' fs' bs' hc'
        refine ⟨⟨fun hg => ?_, fun hall => ?_⟩, fun hg f hf => ?_⟩
        · by_cases hg' : tmps.getD g' undef = .bool w'
          · have := hs.1 hg'
            rw [this] at hg
            cases hg
            simp only [okAll, List.all_append, Bool.and_eq_true, List.all_cons, List.all_nil, beq_self_eq_true, Bool.and_true, and_true]
            exact h1.1 hg'
          · rw [hs.2 hg'] at hg
            exact absurd hg (undef_ne_bool _)
        · simp only [okAll, List.all_append, Bool.and_eq_true, List.all_cons, List.all_nil, Bool.and_true, beq_iff_eq] at hall
          have := hs.1 (h1.2 hall.1)
          rw [this, hall.2]
        · rcases List.mem_cons.1 hf with rfl | hf
          · exact hg
          · by_cases hg' : tmps.getD g' undef = .bool w'
            · exact h2 hg' f hf
            · rw [hs.2 hg'] at hg
              exact absurd hg (undef_ne_bool _)
      · cases hc
    · next g' w' u e =>
      split at hc
      · next fs' bs' hc' =>
        cases hc
        rw [e] at hs
        simp only [RelV] at hs
        have hno : tmps.getD g undef ≠ .bool w := fun hg => by
          by_cases hg' : tmps.getD g' undef = .bool w'
          · rw [hs.1 hg'] at hg; cases hg
          · rw [hs.2 hg'] at hg
            exact absurd hg (undef_ne_bool _)
        exact ⟨⟨fun hg => absurd hg hno, fun hall => (by simp [okAll] at hall)⟩, fun hg => absurd hg hno⟩
      · cases hc
    · cases hc

/-- A condition that is owed where the guards hold. -/
def imps : List (Bool × Bool) → Prop → Prop
  | [], p => p
  | (b, w) :: r, p => (b == w) = true → imps r p

theorem imps_out : ∀ {bs : List (Bool × Bool)} {p : Prop}, imps bs p → okAll bs = true → p
  | [], p, h, _ => h
  | (b, w) :: r, p, h, ho => by
    simp only [okAll, List.all_cons, Bool.and_eq_true] at ho
    exact imps_out (h ho.1) ho.2

def andG (bs : List (Bool × Bool)) (p : Option Prop) (q : Prop) : Prop := match p with
  | none => q
  | some p => imps bs p ∧ q

theorem andG_out {bs : List (Bool × Bool)} {p : Option Prop} {q : Prop} (h : andG bs p q) : (okAll bs = true → vc p) ∧ q := by
  cases p with
  | none => exact ⟨fun _ => trivial, h⟩
  | some p => exact ⟨fun ho => imps_out h.1 ho, h.2⟩

def putS (G : List Nat) (d : Option Nat) (v : V) (sl : List V) : List V :=
  match d with
  | none => sl
  | some d => if G.contains d = true then (sl.map (ungd d)).set d v else sl.set d v

theorem getD_set {α : Type} (l : List α) (d t : Nat) (v x : α) : (l.set d v).getD t x = if d = t ∧ d < l.length then v else l.getD t x := by
  simp only [List.getD_eq_getElem?_getD, List.getElem?_set]
  by_cases h : d = t
  · subst h
    by_cases h2 : d < l.length
    · simp [h2]
    · simp [h2]
  · simp [h]

theorem getD_map_ungd (l : List V) (d t : Nat) : (l.map (ungd d)).getD t .any = ungd d (l.getD t .any) := by
  simp only [List.getD_eq_getElem?_getD, List.getElem?_map]
  cases l[t]? <;> rfl

theorem arr_getD_set (a : Array Value) (d t : Nat) (u : Value) : (a.setIfInBounds d u).getD t undef = if d = t ∧ d < a.size then u else a.getD t undef := by
  simp only [Array.getD_eq_getD_getElem?, Array.getElem?_setIfInBounds]
  by_cases h : d = t
  · subst h
    by_cases h2 : d < a.size
    · simp [h2]
    · simp [h2]
  · simp [h]

/-- A slot is written: with a plain value, or with one under a guard. -/
theorem putS_rel {c : Cfg} {G : List Nat} {sl : List V} {a : Act} (h : SlR c sl a.tmps) (hg : GdIn G sl) {d : Option Nat} {v : V} {u : Value}
    (hv : match v with
      | .gd g w x => g ∈ G ∧ d ≠ some g ∧ (a.tmps.getD g undef = .bool w → RelV c x u) ∧ (a.tmps.getD g undef ≠ .bool w → u = undef)
      | v => RelV c v u) : SlR c (putS G d v sl) (a.put d u).tmps ∧ GdIn G (putS G d v sl) := by
  cases d with
  | none => exact ⟨h, hg⟩
  | some d =>
    simp only [putS, Act.put]
    -- the list without guards that name d
    have key : ∀ sl1 : List V, sl1.length = sl.length → (∀ t, sl1.getD t .any = sl.getD t .any ∨ sl1.getD t .any = .any) → (∀ t g w x, sl1.getD t .any = .gd g w x → g ≠ d) →
        SlR c (sl1.set d v) (a.tmps.setIfInBounds d u) ∧ GdIn G (sl1.set d v) := by
      intro sl1 hlen hsame hno
      have hl := h.len
      refine ⟨⟨by simp [hlen]; exact hl, fun t => ?_⟩, fun t g w x e => ?_⟩
      · unfold SlotR
        rw [getD_set]
        by_cases hdt : d = t ∧ d < sl1.length
        · rw [if_pos hdt]
          obtain ⟨rfl, hdl⟩ := hdt
          have hda : d < a.tmps.size := by omega
          cases v with
          | gd g w x =>
            simp only at hv ⊢
            obtain ⟨h1, h2, h3, h4⟩ := hv
            have hgd : ¬ (d = g ∧ d < a.tmps.size) := fun e => h2 (by rw [e.1])
            rw [arr_getD_set, arr_getD_set, if_neg hgd, if_pos ⟨rfl, hda⟩]
            exact ⟨h3, h4⟩
          | _ =>
            simp only at hv ⊢
            rw [arr_getD_set, if_pos ⟨rfl, hda⟩]
            exact hv
        · rw [if_neg hdt]
          have htt : (a.tmps.setIfInBounds d u).getD t undef = a.tmps.getD t undef ∨ sl1.getD t .any = .any := by
            by_cases hdt2 : d = t
            · right
              have : sl1.length ≤ t := by omega
              simp [List.getD, List.getElem?_eq_none this]
            · left
              rw [arr_getD_set, if_neg (fun e => hdt2 e.1)]
          rcases htt with htt | htt
          · have hs := h.slot t
            unfold SlotR at hs
            rcases hsame t with e | e
            · rw [e, htt]
              split
              · next g w x e2 =>
                rw [e2] at hs
                have hne : g ≠ d := hno t g w x (e.trans e2)
                rw [arr_getD_set, if_neg (fun e => hne e.1.symm)]
                exact hs
              · next hn =>
                split at hs
                · next g w x e2 => exact absurd e2 (hn g w x)
                · exact hs
            · rw [e]
              simp only [RelV]
          · rw [htt]
            simp only [RelV]
      · rw [getD_set] at e
        split at e
        · subst e
          exact hv.1
        · rcases hsame t with e2 | e2
          · rw [e2] at e
            exact hg t g w x e
          · rw [e2] at e
            cases e
    split
    · next hc =>
      refine key _ (by simp) (fun t => ?_) (fun t g w x e => ?_)
      · rw [getD_map_ungd]
        cases sl.getD t .any with
        | gd g w x =>
          simp only [ungd]
          split
          · exact .inr rfl
          · exact .inl rfl
        | _ => exact .inl rfl
      · rw [getD_map_ungd] at e
        cases hh : sl.getD t .any with
        | gd g' w' x' =>
          rw [hh] at e
          simp only [ungd] at e
          split at e
          · cases e
          · next hne => cases e; exact hne
        | _ => rw [hh] at e; simp [ungd] at e
    · next hc =>
      refine key sl rfl (fun t => .inl rfl) (fun t g w x e => ?_)
      rintro rfl
      have := hg t g w x e
      exact hc (by simpa using this)

/-- The slot that a guard looks at. -/
def gslot (ops : List Oper) (j : Nat) : Option Nat := match ops[j]? with
  | some o => o.dst
  | none => none

def aops (P : Program) (C : Caller) (G : List Nat) (ops : List Oper) : List Oper → List V → List Ob → (List V → List Ob → Prop) → Prop
  | [], sl, st, K => K sl st
  | o :: rest, sl, st, K =>
    match o.guard with
    | none => aop P C st [] (rdv sl) o.op fun v st' => aops P C G ops rest (putS G o.dst (nogd v) sl) st' K
    | some (j, w) => match gslot ops j with
      | none => False
      | some g => match conds sl 8 g w with
        | none => False
        | some (fs, bs) =>
          if G.contains g = true then
            match aval P st fs (rdv sl) o.op, o.dst with
            | some (p, v), some d => if d = g then False else andG bs p (aops P C G ops rest (putS G (some d) (.gd g w (nogd v)) sl) st K)
            | _, _ => bif okAll bs then aop P C st fs (rdv sl) o.op fun v st' => aops P C G ops rest (putS G o.dst (nogd v) sl) st' K
              else aops P C G ops rest (putS G o.dst (.x undef) sl) st K
          else False

theorem nogd_hv {c : Cfg} {G : List Nat} {d : Option Nat} {a : Act} {v : V} {u : Value} (h : RelV c v u) : match nogd v with
    | .gd g w x => g ∈ G ∧ d ≠ some g ∧ (a.tmps.getD g undef = .bool w → RelV c x u) ∧ (a.tmps.getD g undef ≠ .bool w → u = undef)
    | v => RelV c v u := by
  have := nogd_rel h
  split
  · next g w x e => exact absurd e nogd_ne
  · exact this

theorem wanted_iff {ops : Array Oper} {o : Oper} {tmps : Array Value} {j g : Nat} {w : Bool} (ho : o.guard = some (j, w)) (hg : gslot ops.toList j = some g) :
    Region.wanted o (yielded ops tmps) = true ↔ tmps.getD g undef = .bool w := by
  unfold gslot at hg
  simp only [Array.getElem?_toList] at hg
  split at hg
  · next oj hj =>
    simp only [Region.wanted, ho, yielded, hj, Option.bind_some, hg]
    rw [Array.getD_eq_getD_getElem?]
    cases ht : tmps[g]? with
    | none => simp [undef]
    | some x =>
      cases x <;> simp
  · cases hg

theorem aops_sound {P : Program} {w0 : Base} {C : Caller} (hC : SoundC P C) {G : List Nat} {ops : Array Oper} {Q : Exit → Act → World → Prop} :
    ∀ (l : List Oper) (c : Cfg) (sl : List V) (a : Act) (K : List V → List Ob → Prop), Rel w0 c → SlR c sl a.tmps → GdIn G sl → aops P C G ops.toList l sl c.st K →
      (∀ sl' c' a', Rel w0 c' → Ext c c' → SlR c' sl' a'.tmps → GdIn G sl' → a'.defers = a.defers → K sl' c'.st → Q .normal a' c'.w) → wpList P ops Q l a c.w
  | [], c, sl, a, K, hr, hs, hg, h, hK => hK sl c a hr (Ext.refl c) hs hg rfl h
  | o :: rest, c, sl, a, K, hr, hs, hg, h, hK => by
    have hput : ∀ (d : Option Nat) (u : Value), (a.put d u).defers = a.defers := fun d u => by cases d <;> rfl
    have hρ : ∀ gs x, (∀ g, g ∈ gs → a.eval (.tmp g.1) = .bool g.2) → RelV c (rdv sl gs x) (a.eval x) := fun gs x hgs => rdv_rel hs gs x hgs
    have run : ∀ fs : Facts, (∀ g, g ∈ fs → a.eval (.tmp g.1) = .bool g.2) → (aop P C c.st fs (rdv sl) o.op fun v st' => aops P C G ops.toList rest (putS G o.dst (nogd v) sl) st' K) →
        o.wp P a c.w (wpList P ops Q rest) Q := fun fs hfs h => by
      refine aop_sound hC hr hρ hfs h (fun v c' u h1 h2 h3 h4 => ?_)
      obtain ⟨g1, g2⟩ := putS_rel (a := a) (d := o.dst) (SlR.ext h2 hs) hg (nogd_hv h3)
      refine aops_sound hC rest c' _ _ K h1 g1 g2 h4 fun sl' c'' a' k1 k2 k3 k4 k5 k6 => hK sl' c'' a' k1 (h2.trans k2) k3 k4 (k5.trans (hput _ _)) k6
    unfold wpList
    simp only [aops] at h
    split at h
    · next hgd =>
      have hw : Region.wanted o (yielded ops a.tmps) = true := by simp [Region.wanted, hgd]
      rw [if_pos hw]
      exact .inl (run [] (fun g hh => by simp at hh) h)
    · next j w hgd =>
      split at h
      · exact h.elim
      · next g hgs =>
        have hwi := wanted_iff (tmps := a.tmps) hgd hgs
        split at h
        · exact h.elim
        · next fs bs hc =>
          obtain ⟨c1, c2⟩ := conds_sound hs 8 g w fs bs hc
          split at h
          · next hG =>
            have hGm : g ∈ G := by simpa using hG
            split at h
            · next p v d hv hd =>
              split at h
              · exact h.elim
              · next hne =>
                obtain ⟨hp, hk⟩ := andG_out h
                have next' : ∀ u, (a.tmps.getD g undef = .bool w → RelV c v u) → (a.tmps.getD g undef ≠ .bool w → u = undef) → wpList P ops Q rest (a.put o.dst u) c.w := by
                  intro u hu1 hu2
                  obtain ⟨g1, g2⟩ := putS_rel (a := a) (d := some d) (v := .gd g w (nogd v)) (u := u) hs hg ⟨hGm, fun e => hne (by cases e; rfl), fun e => nogd_rel (hu1 e), hu2⟩
                  rw [hd]
                  exact aops_sound hC rest c _ _ K hr g1 g2 hk fun sl' c'' a' k1 k2 k3 k4 k5 k6 => hK sl' c'' a' k1 k2 k3 k4 (k5.trans (hput _ _)) k6
                by_cases hw : Region.wanted o (yielded ops a.tmps) = true
                · rw [if_pos hw]
                  have hgw := hwi.1 hw
                  obtain ⟨u, h1, h2⟩ := aval_sound (P := P) hr hρ (c2 hgw) hv (hp (c1.1 hgw))
                  exact .inl (wp_value h1 (next' u (fun _ => h2) (fun e => absurd hgw e)))
                · rw [if_neg hw]
                  exact next' undef (fun e => absurd (hwi.2 e) hw) (fun _ => rfl)
            · by_cases hw : Region.wanted o (yielded ops a.tmps) = true
              · rw [if_pos hw]
                have hgw := hwi.1 hw
                rw [c1.1 hgw] at h
                exact .inl (run fs (c2 hgw) h)
              · rw [if_neg hw]
                have hall : okAll bs = false := by
                  cases hb : okAll bs with
                  | false => rfl
                  | true => exact absurd (hwi.2 (c1.2 hb)) hw
                rw [hall] at h
                obtain ⟨g1, g2⟩ := putS_rel (a := a) (d := o.dst) (v := .x undef) (u := undef) hs hg (by simp only [RelV])
                exact aops_sound hC rest c _ _ K hr g1 g2 h fun sl' c'' a' k1 k2 k3 k4 k5 k6 => hK sl' c'' a' k1 k2 k3 k4 (k5.trans (hput _ _)) k6
          · exact h.elim

/-- The slots that guards look at. -/
def guards (ops : List Oper) : List Oper → List Nat
  | [] => []
  | o :: r => match o.guard with
    | some (j, _) => match gslot ops j with
      | some g => if (guards ops r).contains g = true then guards ops r else g :: guards ops r
      | none => guards ops r
    | none => guards ops r

def clr (G : List Nat) (sl : List V) : List V := match G with
  | [] => sl
  | _ => sl.map nogd

theorem clr_rel {c : Cfg} {G : List Nat} {sl : List V} {tmps : Array Value} (h : SlR c sl tmps) (hg : GdIn G sl) : SlR c (clr G sl) tmps ∧ GdIn [] (clr G sl) := by
  cases G with
  | nil => exact ⟨h, hg⟩
  | cons g0 G =>
    have hmap : ∀ t, (sl.map nogd).getD t .any = nogd (sl.getD t .any) := fun t => by
      simp only [List.getD_eq_getElem?_getD, List.getElem?_map]
      cases sl[t]? <;> rfl
    refine ⟨⟨by simp [clr]; exact h.len, fun t => ?_⟩, fun t g w v e => ?_⟩
    · have hs := h.slot t
      unfold SlotR at hs ⊢
      simp only [clr, hmap]
      cases hh : sl.getD t .any with
      | gd g w v => simp only [nogd, RelV]
      | _ => rw [hh] at hs; simpa only [nogd] using hs
    · simp only [clr, hmap] at e
      exact absurd e nogd_ne

end Eng
end Go.Proofs.YtkpplfghhciacaaDoor

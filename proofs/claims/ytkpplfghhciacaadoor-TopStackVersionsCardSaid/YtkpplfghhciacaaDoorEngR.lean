/-
  Regions whose order is open, reckoned with what is known of the guards: it comes to what the reckoning without it comes to. Conditions: none.
-/
import Derived.Test.YtkpplfghhciacaaDoorEngP
set_option linter.unusedVariables false
set_option linter.unusedSimpArgs false
namespace Go.Proofs.YtkpplfghhciacaaDoor
namespace Eng
open Go.RowKit

/-- Guards of which it is known whether they hold. -/
abbrev Kd := List (Nat × Bool × Bool)

def kT (kn : Kd) (g : Nat) (w : Bool) : Bool := kn.any fun p => Nat.beq p.1 g && (p.2.1 == w && p.2.2)
def kF0 (kn : Kd) (g : Nat) (w : Bool) : Bool := kn.any fun p => Nat.beq p.1 g && (p.2.1 == w && !p.2.2)
def kF (kn : Kd) (g : Nat) (w : Bool) : Bool := kF0 kn g w || kT kn g (!w)

def kst (kn : Kd) (fs : Facts) (g : Nat) (w : Bool) : Option Bool := match kT kn g w with
  | true => some true
  | false => match fs.any fun f => kF kn f.1 f.2 with
    | true => some false
    | false => none

def kc (kn : Kd) (c : Nat) : Option Bool := match kT kn c true || kF0 kn c false with
  | true => some true
  | false => match kT kn c false || kF0 kn c true with
    | true => some false
    | false => none

def kforget (d : Option Nat) (kn : Kd) : Kd := match d with
  | none => kn
  | some d => kn.filter fun p => !(Nat.beq p.1 d)

def kthen (fs : Facts) (kn : Kd) : Kd := fs.map (fun f => (f.1, f.2, true)) ++ kn

def isB (sl : List V) (g : Nat) : Bool := match sl.getD g .any with
  | .x (.bool _) => true
  | .gd _ _ (.x (.bool _)) => true
  | _ => false

def kelse (sl : List V) (fs : Facts) (g : Nat) (w : Bool) (kn : Kd) : Kd := match isB sl g && fs.tail.all fun f => kT kn f.1 f.2 with
  | true => (g, !w, true) :: (g, w, false) :: kn
  | false => (g, w, false) :: kn

def KdR (kn : Kd) (sl : List V) : Prop := ∀ p, p ∈ kn → ∀ n fs bs, conds sl n p.1 p.2.1 = some (fs, bs) → okAll bs = p.2.2

theorem kT_out {kn : Kd} {g : Nat} {w : Bool} (h : kT kn g w = true) : (g, w, true) ∈ kn := by
  simp only [kT, List.any_eq_true, Bool.and_eq_true, beq_iff_eq] at h
  obtain ⟨⟨a, b, c⟩, h1, h2, h3, h4⟩ := h
  have h2 := Nat.eq_of_beq_eq_true h2
  simp only at h2 h3 h4
  subst h2 h3 h4
  exact h1

theorem kF0_out {kn : Kd} {g : Nat} {w : Bool} (h : kF0 kn g w = true) : (g, w, false) ∈ kn := by
  simp only [kF0, List.any_eq_true, Bool.and_eq_true, beq_iff_eq] at h
  obtain ⟨⟨a, b, c⟩, h1, h2, h3, h4⟩ := h
  have h2 := Nat.eq_of_beq_eq_true h2
  simp only [Bool.not_eq_true'] at h2 h3 h4
  subst h2 h3 h4
  exact h1

theorem okAll_snoc (bs : List (Bool × Bool)) (b w : Bool) : okAll (bs ++ [(b, w)]) = (okAll bs && (b == w)) := by
  simp [okAll, List.all_append]

theorem conds_chain {sl : List V} : ∀ (n g : Nat) (w : Bool) (fs : Facts) (bs : List (Bool × Bool)), conds sl n g w = some (fs, bs) → ∀ f, f ∈ fs → ∃ m fs' bs', conds sl m f.1 f.2 = some (fs', bs') ∧ (okAll bs = true → okAll bs' = true)
  | 0, g, w, fs, bs, h => by simp [conds] at h
  | n + 1, g, w, fs, bs, h => by
    intro f hf
    have h0 := h
    simp only [conds] at h
    split at h
    · cases h
      simp only [List.mem_singleton] at hf
      subst hf
      exact ⟨n + 1, _, _, h0, id⟩
    · cases h
      simp only [List.mem_singleton] at hf
      subst hf
      exact ⟨n + 1, _, _, h0, id⟩
    · split at h
      · next fs' bs' hc =>
        cases h
        rcases List.mem_cons.1 hf with rfl | hf
        · exact ⟨n + 1, _, _, h0, id⟩
        · obtain ⟨m, a, b, h1, h2⟩ := conds_chain n _ _ _ _ hc f hf
          exact ⟨m, a, b, h1, fun ho => h2 (by rw [okAll_snoc, Bool.and_eq_true] at ho; exact ho.1)⟩
      · cases h
    · split at h
      · next fs' bs' hc =>
        cases h
        rcases List.mem_cons.1 hf with rfl | hf
        · exact ⟨n + 1, _, _, h0, id⟩
        · obtain ⟨m, a, b, h1, h2⟩ := conds_chain n _ _ _ _ hc f hf
          exact ⟨m, a, b, h1, fun ho => h2 (by rw [okAll_snoc, Bool.and_eq_true] at ho; exact ho.1)⟩
      · cases h
    · cases h

theorem conds_flip {sl : List V} {n m g : Nat} {w : Bool} {fs fs2 : Facts} {bs bs2 : List (Bool × Bool)} (h : conds sl n g w = some (fs, bs)) (h2 : conds sl m g (!w) = some (fs2, bs2)) (ho : okAll bs2 = true) : okAll bs = false := by
  cases n with
  | zero => simp [conds] at h
  | succ n =>
    cases m with
    | zero => simp [conds] at h2
    | succ m =>
      simp only [conds] at h h2
      split at h
      · next b e =>
        cases h
        rw [e] at h2
        cases h2
        simp only [okAll, List.all_cons, List.all_nil, Bool.and_true] at ho ⊢
        cases b <;> cases w <;> simp_all
      · cases h; rfl
      · next g' w' b e =>
        rw [e] at h2
        simp only at h2
        split at h
        · cases h
          split at h2
          · cases h2
            rw [okAll_snoc, Bool.and_eq_true] at ho
            rw [okAll_snoc]
            have := ho.2
            cases b <;> cases w <;> simp_all
          · cases h2
        · cases h
      · split at h
        · cases h
          rw [okAll_snoc]
          simp
        · cases h
      · cases h

theorem kst_sound {kn : Kd} {sl : List V} (hk : KdR kn sl) {n g : Nat} {w t : Bool} {fs : Facts} {bs : List (Bool × Bool)} (hc : conds sl n g w = some (fs, bs)) (h : kst kn fs g w = some t) : okAll bs = t := by
  unfold kst at h
  split at h
  · next e => cases h; exact hk _ (kT_out e) n fs bs hc
  · split at h
    · next e =>
      cases h
      rw [List.any_eq_true] at e
      obtain ⟨f, hf, he⟩ := e
      obtain ⟨m, fs', bs', h1, h2⟩ := conds_chain n g w fs bs hc f hf
      have hfalse : okAll bs' = false := by
        simp only [kF, Bool.or_eq_true] at he
        rcases he with he | he
        · exact hk _ (kF0_out he) m fs' bs' h1
        · -- the other one holds, where it can be told
          cases m with
          | zero => simp [conds] at h1
          | succ m =>
            have : ∃ fs2 bs2, conds sl (m + 1) f.1 (!f.2) = some (fs2, bs2) := by
              simp only [conds] at h1 ⊢
              split at h1
              · exact ⟨_, _, rfl⟩
              · exact ⟨_, _, rfl⟩
              · split at h1
                · exact ⟨_, _, rfl⟩
                · cases h1
              · split at h1
                · exact ⟨_, _, rfl⟩
                · cases h1
              · cases h1
            obtain ⟨fs2, bs2, h3⟩ := this
            exact conds_flip h1 h3 (hk _ (kT_out he) _ _ _ h3)
      cases hb : okAll bs with
      | false => rfl
      | true => rw [h2 hb] at hfalse; cases hfalse
    · cases h

theorem kd_cons {kn : Kd} {sl : List V} (h : KdR kn sl) {p : Nat × Bool × Bool} (hp : ∀ n fs bs, conds sl n p.1 p.2.1 = some (fs, bs) → okAll bs = p.2.2) : KdR (p :: kn) sl := fun q hq => by
  rcases List.mem_cons.1 hq with rfl | hq
  · exact hp
  · exact h q hq

/-- The booleans of a guard are the same by every reckoning that comes to an end. -/
theorem conds_fuel {sl : List V} : ∀ (n m g : Nat) (w : Bool) (x y : Facts × List (Bool × Bool)), conds sl n g w = some x → conds sl m g w = some y → x = y
  | 0, m, g, w, x, y, h, _ => by simp [conds] at h
  | n + 1, 0, g, w, x, y, _, h => by simp [conds] at h
  | n + 1, m + 1, g, w, x, y, h1, h2 => by
    simp only [conds] at h1 h2
    split at h1
    · next e => rw [e] at h2; cases h1; cases h2; rfl
    · next e => rw [e] at h2; cases h1; cases h2; rfl
    · next e =>
      rw [e] at h2
      simp only at h2
      split at h1
      · next h3 =>
        split at h2
        · next h4 => cases h1; cases h2; cases conds_fuel n m _ _ _ _ h3 h4; rfl
        · cases h2
      · cases h1
    · next e =>
      rw [e] at h2
      simp only at h2
      split at h1
      · next h3 =>
        split at h2
        · next h4 => cases h1; cases h2; cases conds_fuel n m _ _ _ _ h3 h4; rfl
        · cases h2
      · cases h1
    · cases h1

theorem kthen_ok {kn : Kd} {sl : List V} (hk : KdR kn sl) {n g : Nat} {w : Bool} {fs : Facts} {bs : List (Bool × Bool)} (hc : conds sl n g w = some (fs, bs)) (ho : okAll bs = true) : KdR (kthen fs kn) sl := by
  intro p hp
  unfold kthen at hp
  rw [List.mem_append, List.mem_map] at hp
  rcases hp with ⟨f, hf, rfl⟩ | hp
  · obtain ⟨m, fs', bs', h1, h2⟩ := conds_chain n g w fs bs hc f hf
    intro n' fs2 bs2 h3
    cases conds_fuel m n' _ _ _ _ h1 h3
    exact h2 ho
  · exact hk p hp

theorem kelse_ok {kn : Kd} {sl : List V} (hk : KdR kn sl) {n g : Nat} {w : Bool} {fs : Facts} {bs : List (Bool × Bool)} (hc : conds sl n g w = some (fs, bs)) (ho : okAll bs = false) : KdR (kelse sl fs g w kn) sl := by
  have h1 : KdR ((g, w, false) :: kn) sl := kd_cons hk fun m fs2 bs2 h3 => by cases conds_fuel n m _ _ _ _ hc h3; exact ho
  unfold kelse
  split
  · next hall =>
    rw [Bool.and_eq_true] at hall
    obtain ⟨hB, hall⟩ := hall
    refine kd_cons h1 fun m fs2 bs2 h3 => ?_
    cases n with
    | zero => simp [conds] at hc
    | succ n =>
      cases m with
      | zero => simp [conds] at h3
      | succ m =>
        simp only [conds] at hc h3
        split at hc
        · next b e =>
          cases hc
          rw [e] at h3
          cases h3
          simp only [okAll, List.all_cons, List.all_nil, Bool.and_true] at ho ⊢
          cases b <;> cases w <;> simp_all
        · next u e => (unfold isB at hB; rw [e] at hB; cases hB)
        · next g' w' b e =>
          rw [e] at h3
          simp only at h3
          split at hc
          · next fs0 bs0 hc' =>
            cases hc
            split at h3
            · next hc2 =>
              cases conds_fuel n m _ _ _ _ hc' hc2
              cases h3
              have hin : okAll bs0 = true := by
                cases n with
                | zero => simp [conds] at hc'
                | succ n =>
                  have hh := hc'
                  have hm : (g', w') ∈ fs0 := by
                    simp only [conds] at hh
                    split at hh
                    · cases hh; exact List.mem_singleton.2 rfl
                    · cases hh; exact List.mem_singleton.2 rfl
                    · split at hh
                      · cases hh; exact List.mem_cons_self
                      · cases hh
                    · split at hh
                      · cases hh; exact List.mem_cons_self
                      · cases hh
                    · cases hh
                  rw [List.tail_cons, List.all_eq_true] at hall
                  exact hk _ (kT_out (hall _ hm)) _ _ _ hc'
              rw [okAll_snoc, hin] at ho ⊢
              cases b <;> cases w <;> simp_all
            · cases h3
          · cases hc
        · next e => (unfold isB at hB; rw [e] at hB; cases hB)
        · cases hc
  · exact h1

theorem conds_put {G : List Nat} {sl : List V} (hg : GdIn G sl) (d : Option Nat) (v : V) : ∀ (n g : Nat) (w : Bool) (x : Facts × List (Bool × Bool)), d ≠ some g → conds (putS G d v sl) n g w = some x → conds sl n g w = some x
  | 0, g, w, x, _, h => by simp [conds] at h
  | n + 1, g, w, x, hne, h => by
    cases d with
    | none => exact h
    | some d =>
      have hdg : d ≠ g := fun e => hne (by rw [e])
      have hslot : (putS G (some d) v sl).getD g .any = if G.contains d = true then ungd d (sl.getD g .any) else sl.getD g .any := by
        simp only [putS]
        split
        · rw [getD_set, if_neg (fun e => hdg e.1), getD_map_ungd]
        · rw [getD_set, if_neg (fun e => hdg e.1)]
      have hslot2 : (putS G (some d) v sl).getD g .any = sl.getD g .any ∧ (∀ g' w' y, sl.getD g .any = .gd g' w' y → g' ≠ d) ∨ (putS G (some d) v sl).getD g .any = .any := by
        rw [hslot]
        split
        · cases hh : sl.getD g .any with
          | gd g' w' y =>
            simp only [ungd]
            split
            · exact .inr rfl
            · next e => exact .inl ⟨rfl, fun g'' w'' y' e2 => by cases e2; exact e⟩
          | _ => exact .inl ⟨rfl, fun _ _ _ e => by cases e⟩
        · next hG => exact .inl ⟨rfl, fun g' w' y e e2 => hG (by subst e2; simpa using hg g g' w' y e)⟩
      rcases hslot2 with ⟨e, hgd⟩ | e
      · simp only [conds] at h ⊢
        rw [e] at h
        split at h
        · exact h
        · exact h
        · next g' w' b e2 =>
          split at h
          · next hc =>
            rw [conds_put hg (some d) v n g' w' _ (fun e3 => hgd g' w' _ e2 (by cases e3; rfl)) hc]
            exact h
          · cases h
        · next g' w' b e2 =>
          split at h
          · next hc =>
            rw [conds_put hg (some d) v n g' w' _ (fun e3 => hgd g' w' _ e2 (by cases e3; rfl)) hc]
            exact h
          · cases h
        · cases h
      · simp only [conds] at h
        rw [e] at h
        cases h

theorem kd_put {G : List Nat} {kn : Kd} {sl : List V} (hk : KdR kn sl) (hg : GdIn G sl) (d : Option Nat) (v : V) : KdR (kforget d kn) (putS G d v sl) := by
  intro p hp n fs bs hc
  cases d with
  | none => exact hk p hp n fs bs hc
  | some d =>
    simp only [kforget, List.mem_filter] at hp
    refine hk p hp.1 n fs bs (conds_put hg (some d) v n _ _ _ (fun e => ?_) hc)
    cases e
    have := hp.2
    simp at this

theorem gdin_put {G : List Nat} {sl : List V} (hg : GdIn G sl) (d : Option Nat) {v : V} (hv : ∀ g w x, v = .gd g w x → g ∈ G) : GdIn G (putS G d v sl) := by
  intro t g w x e
  cases d with
  | none => exact hg t g w x e
  | some d =>
    simp only [putS] at e
    split at e
    · rw [getD_set] at e
      split at e
      · exact hv g w x e
      · rw [getD_map_ungd] at e
        cases hh : sl.getD t .any with
        | gd g' w' x' =>
          rw [hh] at e
          simp only [ungd] at e
          split at e
          · cases e
          · cases e; exact hg t _ _ _ hh
        | _ => rw [hh] at e; simp [ungd] at e
    · rw [getD_set] at e
      split at e
      · exact hv g w x e
      · exact hg t g w x e

/-- One operation, where something is known of the guards. -/
def aopD (P : Program) (C : Caller) (kn : Kd) (st : List Ob) (fs : Facts) (sl : List V) (op : Op) (k : V → List Ob → Prop) : Prop := match op with
  | .pick (.tmp c) x y => match kc kn c with
    | some t => match rdv sl fs (.tmp c) with
      | .x (.bool _) => match t with
        | true => k (rdv sl ((c, true) :: fs) x) st
        | false => k (rdv sl ((c, false) :: fs) y) st
      | _ => False
    | none => aop P C st fs (rdv sl) op k
  | _ => aop P C st fs (rdv sl) op k

theorem kc_sound {kn : Kd} {sl : List V} (hk : KdR kn sl) {fs : Facts} (hfs : ∀ f, f ∈ fs → ∃ m fs' bs', conds sl m f.1 f.2 = some (fs', bs') ∧ okAll bs' = true) {c : Nat} {b t : Bool} (hc : kc kn c = some t) (hr : rdv sl fs (.tmp c) = .x (.bool b)) : b = t := by
  have key : ∃ (n : Nat) (fs1 : Bool → Facts) (bs1 : List (Bool × Bool)), okAll bs1 = true ∧ ∀ w, conds sl n c w = some (fs1 w, bs1 ++ [(b, w)]) := by
    simp only [rdv] at hr
    split at hr
    · next g w v e =>
      split at hr
      · next hany =>
        subst hr
        rw [List.any_eq_true] at hany
        obtain ⟨f, hf, he⟩ := hany
        simp only [Bool.and_eq_true, beq_iff_eq] at he
        obtain ⟨m, fs', bs', h1, h2⟩ := hfs f hf
        rw [he.1, he.2] at h1
        exact ⟨m + 1, fun w' => (c, w') :: fs', bs', h2, fun w' => by simp only [conds, e, h1]⟩
      · cases hr
    · exact ⟨1, fun w' => [(c, w')], [], rfl, fun w' => by simp only [conds, hr]; rfl⟩
  obtain ⟨n, fs1, bs1, h1, h2⟩ := key
  have hT : ∀ w, kT kn c w = true → b = w := fun w h => by
    have := hk _ (kT_out h) n _ _ (h2 w)
    rw [okAll_snoc, h1] at this
    simpa using this
  have hF : ∀ w, kF0 kn c w = true → b = !w := fun w h => by
    have := hk _ (kF0_out h) n _ _ (h2 w)
    rw [okAll_snoc, h1] at this
    cases b <;> cases w <;> simp_all
  unfold kc at hc
  split at hc
  · next e =>
    cases hc
    rw [Bool.or_eq_true] at e
    rcases e with e | e
    · exact hT _ e
    · exact hF _ e
  · split at hc
    · next e =>
      cases hc
      rw [Bool.or_eq_true] at e
      rcases e with e | e
      · exact hT _ e
      · exact hF _ e
    · cases hc

theorem aopD_aop {P : Program} {C : Caller} {kn : Kd} {sl : List V} (hk : KdR kn sl) {st : List Ob} {fs : Facts} (hfs : ∀ f, f ∈ fs → ∃ m fs' bs', conds sl m f.1 f.2 = some (fs', bs') ∧ okAll bs' = true) {op : Op} {k : V → List Ob → Prop} (h : aopD P C kn st fs sl op k) : aop P C st fs (rdv sl) op k := by
  unfold aopD at h
  split at h
  · next c x y =>
    split at h
    · next t hc =>
      split at h
      · next b hr =>
        have hb := kc_sound hk hfs hc hr
        subst hb
        unfold aop
        simp only [aval, hr]
        cases hp : apick b (rdv sl ((c, true) :: fs) x) (rdv sl ((c, false) :: fs) y) with
        | none =>
          simp only [aeff, hr]
          cases b <;> exact h
        | some v =>
          simp only [andO]
          have : v = bif b then rdv sl ((c, true) :: fs) x else rdv sl ((c, false) :: fs) y := by
            unfold apick at hp
            split at hp
            · next e1 e2 => cases hp; rw [e1, e2]; cases b <;> rfl
            · next e1 e2 =>
              split at hp
              · next hkk => cases hp; subst hkk; rw [e1, e2]; cases b <;> rfl
              · cases hp
            · cases hp
          rw [this]
          cases b <;> exact h
      · exact h.elim
    · exact h
  · exact h

def aopsD (P : Program) (C : Caller) (G : List Nat) (ops : List Oper) : List Oper → Kd → List V → List Ob → (Kd → List V → List Ob → Prop) → Prop
  | [], kn, sl, st, K => K kn sl st
  | o :: rest, kn, sl, st, K => forceL sl fun sl =>
    match o.guard with
    | none => aopD P C kn st [] sl o.op fun v st' => aopsD P C G ops rest (kforget o.dst kn) (putS G o.dst (nogd v) sl) st' K
    | some (j, w) => match gslot ops j with
      | none => False
      | some g => match conds sl 8 g w with
        | none => False
        | some (fs, bs) =>
          if G.contains g = true then
            match aval P st fs (rdv sl) o.op, o.dst with
            | some (p, v), some d => if d = g then False else match kst kn fs g w with
              | none => andG bs p (aopsD P C G ops rest (kforget (some d) kn) (putS G (some d) (.gd g w (nogd v)) sl) st K)
              | some true => andO p (aopsD P C G ops rest (kforget (some d) kn) (putS G (some d) (.gd g w (nogd v)) sl) st K)
              | some false => aopsD P C G ops rest (kforget (some d) kn) (putS G (some d) (.gd g w (nogd v)) sl) st K
            | _, _ => match kst kn fs g w with
              | none => bif okAll bs then aopD P C (kthen fs kn) st fs sl o.op fun v st' => aopsD P C G ops rest (kforget o.dst (kthen fs kn)) (putS G o.dst (nogd v) sl) st' K
                else aopsD P C G ops rest (kforget o.dst (kelse sl fs g w kn)) (putS G o.dst (.x undef) sl) st K
              | some true => aopD P C kn st fs sl o.op fun v st' => aopsD P C G ops rest (kforget o.dst kn) (putS G o.dst (nogd v) sl) st' K
              | some false => aopsD P C G ops rest (kforget o.dst kn) (putS G o.dst (.x undef) sl) st K
          else False

theorem aopsD_aops {P : Program} {C : Caller} {Γ : Ctx} {G : List Nat} {ops : List Oper} : ∀ (l : List Oper) (kn : Kd) (sl : List V) (st : List Ob) (K : Kd → St) (K' : St), (∀ kn sl st, GdIn G sl → KdR kn sl → K kn sl st → K' sl st) → GdIn G sl → KdR kn sl → aopsD P (Cx0 P C Γ) G ops l kn sl st K → aops P (Cx P C Γ) G ops l sl st K'
  | [], kn, sl, st, K, K', hK, hg, hk, h => hK _ _ _ hg hk h
  | o :: rest, kn, sl, st, K, K', hK, hg, hk, h => by
    have hno : ∀ v : V, ∀ g w x, nogd v = .gd g w x → g ∈ G := fun v g w x e => absurd e nogd_ne
    have step : ∀ (kn' : Kd) (fs : Facts), KdR kn' sl → (∀ f, f ∈ fs → ∃ m fs' bs', conds sl m f.1 f.2 = some (fs', bs') ∧ okAll bs' = true) →
        (aopD P (Cx0 P C Γ) kn' st fs sl o.op fun v st' => aopsD P (Cx0 P C Γ) G ops rest (kforget o.dst kn') (putS G o.dst (nogd v) sl) st' K) →
        aop P (Cx P C Γ) st fs (rdv sl) o.op fun v st' => aops P (Cx P C Γ) G ops rest (putS G o.dst (nogd v) sl) st' K' := fun kn' fs hk' hfs h =>
      aop_le Cx0_le (fun v st' h => aopsD_aops rest _ _ st' K K' hK (gdin_put hg _ (hno v)) (kd_put hk' hg _ _) h) (aopD_aop hk' hfs h)
    have skip : ∀ (kn' : Kd), KdR kn' sl → aopsD P (Cx0 P C Γ) G ops rest (kforget o.dst kn') (putS G o.dst (.x undef) sl) st K → aops P (Cx P C Γ) G ops rest (putS G o.dst (.x undef) sl) st K' := fun kn' hk' h =>
      aopsD_aops rest _ _ st K K' hK (gdin_put hg _ (fun g w x e => by cases e)) (kd_put hk' hg _ _) h
    simp only [aopsD, forceL_eq] at h
    simp only [aops]
    split at h
    · next hgd => rw [hgd]; exact step kn [] hk (fun f hf => by simp at hf) h
    · next j w hgd =>
      rw [hgd]
      simp only
      split at h
      · exact h.elim
      · next g hgs =>
        rw [hgs]
        simp only
        split at h
        · exact h.elim
        · next fs bs hc =>
          rw [hc]
          simp only
          have hfs : okAll bs = true → ∀ f, f ∈ fs → ∃ m fs' bs', conds sl m f.1 f.2 = some (fs', bs') ∧ okAll bs' = true := fun ho f hf => by
            obtain ⟨m, a, b, h1, h2⟩ := conds_chain 8 g w fs bs hc f hf
            exact ⟨m, a, b, h1, h2 ho⟩
          split at h
          · next hG =>
            have hGm : g ∈ G := by simpa using hG
            split at h
            · next p v d hv hd =>
              split at h
              · exact h.elim
              · next hne =>
                have go : ∀ {q : Prop}, q = aopsD P (Cx0 P C Γ) G ops rest (kforget (some d) kn) (putS G (some d) (.gd g w (nogd v)) sl) st K → q → aops P (Cx P C Γ) G ops rest (putS G (some d) (.gd g w (nogd v)) sl) st K' := fun e hq => by
                  subst e
                  exact aopsD_aops rest _ _ st K K' hK (gdin_put hg _ (fun g' w' x' e => by cases e; exact hGm)) (kd_put hk hg _ _) hq
                simp only [if_pos hG, hv, hd, if_neg hne]
                split at h
                · cases p with
                  | none => exact go rfl h
                  | some p => exact ⟨h.1, go rfl h.2⟩
                · next hk' =>
                  cases p with
                  | none => exact go rfl h
                  | some p =>
                    refine ⟨?_, go rfl h.2⟩
                    have hp := h.1
                    clear h
                    have : ∀ (l : List (Bool × Bool)), imps l p := fun l => by
                      induction l with
                      | nil => exact hp
                      | cons x l ih => exact fun _ => ih
                    exact this bs
                · next hk' =>
                  have hb := kst_sound hk hc hk'
                  cases p with
                  | none => exact go rfl h
                  | some p =>
                    refine ⟨?_, go rfl h⟩
                    have : ∀ (l : List (Bool × Bool)), okAll l = false → imps l p := fun l => by
                      induction l with
                      | nil => intro e; simp [okAll] at e
                      | cons x l ih =>
                        intro e hx
                        refine ih ?_
                        simp only [okAll, List.all_cons] at e ⊢
                        rw [hx] at e
                        simpa using e
                    exact this bs hb
            · next hnv =>
              have h2 : (match kst kn fs g w with
                  | none => bif okAll bs then aopD P (Cx0 P C Γ) (kthen fs kn) st fs sl o.op fun v st' => aopsD P (Cx0 P C Γ) G ops rest (kforget o.dst (kthen fs kn)) (putS G o.dst (nogd v) sl) st' K
                    else aopsD P (Cx0 P C Γ) G ops rest (kforget o.dst (kelse sl fs g w kn)) (putS G o.dst (.x undef) sl) st K
                  | some true => aopD P (Cx0 P C Γ) kn st fs sl o.op fun v st' => aopsD P (Cx0 P C Γ) G ops rest (kforget o.dst kn) (putS G o.dst (nogd v) sl) st' K
                  | some false => aopsD P (Cx0 P C Γ) G ops rest (kforget o.dst kn) (putS G o.dst (.x undef) sl) st K) →
                  bif okAll bs then aop P (Cx P C Γ) st fs (rdv sl) o.op fun v st' => aops P (Cx P C Γ) G ops rest (putS G o.dst (nogd v) sl) st' K' else aops P (Cx P C Γ) G ops rest (putS G o.dst (.x undef) sl) st K' := by
                intro h
                cases hb : okAll bs with
                | true =>
                  cases hks : kst kn fs g w with
                  | none => rw [hks, hb] at h; exact step _ fs (kthen_ok hk hc hb) (hfs hb) h
                  | some t =>
                    have := kst_sound hk hc hks
                    rw [hb] at this
                    subst this
                    rw [hks] at h
                    exact step _ fs hk (hfs hb) h
                | false =>
                  cases hks : kst kn fs g w with
                  | none => rw [hks, hb] at h; exact skip _ (kelse_ok hk hc hb) h
                  | some t =>
                    have := kst_sound hk hc hks
                    rw [hb] at this
                    subst this
                    rw [hks] at h
                    exact skip _ hk h
              simp only [if_pos hG]
              have h3 := h2 h
              exact h3
          · exact h.elim

end Eng
end Go.Proofs.YtkpplfghhciacaaDoor

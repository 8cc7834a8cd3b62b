/-
  Part 3 of a proof of one law by a verified reader of the program: lifted functions, their plain specifications, the law. Conditions: none.
-/
import Derived.Test.YtkpplfghhciacaaDoorQ2
import Derived.KernelRfl
import Derived.Test.YtkpplfghhciacaaDoorRows
import Derived.ProofKit
import Derived.OpenShut
import Derived.ChangeSame
import Derived.Carry
import Derived.JoinedCond
import Derived.Shelf.Spec.SlicesInsert
import Derived.Lib.AppendZerosOnto
import Derived.Laws.NewBlocks
import Derived.Test.YtkpplfghhciacaaDoorProg
import Derived.RangeFuncFrom
import Derived.RangeFuncLeaves
import Derived.RangeFuncBox
import Derived.WalkKit
import Derived.OwnWalkIn
import Derived.TacticsInMore
import Derived.LoopNIn
import Derived.LoopIn
import Derived.Deep.QuietTactic
import Derived.BigQuiet
import Derived.WalkSmall
import Derived.Shelf.Strings.Search3
import Derived.Shelf.Small.Strs
import Derived.Shelf.Lay
import Derived.Ground.Names2Prog
import Derived.RegionTactic
import Derived.Shelf.Abstract
import Derived.RangeFuncRecord
import Derived.ChangeAlike
import Derived.Lib.ConvBytes
import Derived.Lib.AtoiErrMem
set_option linter.unusedVariables false
set_option linter.unusedSimpArgs false
namespace Go.Proofs.YtkpplfghhciacaaDoor
namespace Eng
open Go.RowKit
abbrev Kd := List (Nat × Bool × Bool)
def kT (kn : Kd) (g : Nat) (w : Bool) : Bool := kn.any fun p => Nat.beq p.1 g && (p.2.1 == w && p.2.2)
def kF0 (kn : Kd) (g : Nat) (w : Bool) : Bool := kn.any fun p => Nat.beq p.1 g && (p.2.1 == w && !p.2.2)
def kF (kn : Kd) (g : Nat) (w : Bool) : Bool := kF0 kn g w || kT kn g (!w)
def kst (kn : Kd) (fs : Facts) (g : Nat) (w : Bool) : Option Bool := match kT kn g w with
  | true => some true
  | false => match fs.any fun f => kF kn f.1 f.2 with
    | true => some false
    | false => none
def kc (kn : Kd) (c : Nat) : Option Bool := match kT kn c true || kF0 kn c false with
  | true => some true
  | false => match kT kn c false || kF0 kn c true with
    | true => some false
    | false => none
def kforget (d : Option Nat) (kn : Kd) : Kd := match d with
  | none => kn
  | some d => kn.filter fun p => !(Nat.beq p.1 d)
def kthen (fs : Facts) (kn : Kd) : Kd := fs.map (fun f => (f.1, f.2, true)) ++ kn
def isB (sl : List V) (g : Nat) : Bool := match sl.getD g .any with
  | .x (.bool _) => true
  | .gd _ _ (.x (.bool _)) => true
  | _ => false
def kelse (sl : List V) (fs : Facts) (g : Nat) (w : Bool) (kn : Kd) : Kd := match isB sl g && fs.tail.all fun f => kT kn f.1 f.2 with
  | true => (g, !w, true) :: (g, w, false) :: kn
  | false => (g, w, false) :: kn
def KdR (kn : Kd) (sl : List V) : Prop := ∀ p, p ∈ kn → ∀ n fs bs, conds sl n p.1 p.2.1 = some (fs, bs) → okAll bs = p.2.2
theorem kT_out {kn : Kd} {g : Nat} {w : Bool} (h : kT kn g w = true) : (g, w, true) ∈ kn := by
  simp only [kT, List.any_eq_true, Bool.and_eq_true, beq_iff_eq] at h
  obtain ⟨⟨a, b, c⟩, h1, h2, h3, h4⟩ := h
  have h2 := Nat.eq_of_beq_eq_true h2
  simp only at h2 h3 h4
  subst h2 h3 h4
  exact h1
theorem kF0_out {kn : Kd} {g : Nat} {w : Bool} (h : kF0 kn g w = true) : (g, w, false) ∈ kn := by
  simp only [kF0, List.any_eq_true, Bool.and_eq_true, beq_iff_eq] at h
  obtain ⟨⟨a, b, c⟩, h1, h2, h3, h4⟩ := h
  have h2 := Nat.eq_of_beq_eq_true h2
  simp only [Bool.not_eq_true'] at h2 h3 h4
  subst h2 h3 h4
  exact h1
theorem okAll_snoc (bs : List (Bool × Bool)) (b w : Bool) : okAll (bs ++ [(b, w)]) = (okAll bs && (b == w)) := by
  simp [okAll, List.all_append]
theorem conds_chain {sl : List V} : ∀ (n g : Nat) (w : Bool) (fs : Facts) (bs : List (Bool × Bool)), conds sl n g w = some (fs, bs) → ∀ f, f ∈ fs → ∃ m fs' bs', conds sl m f.1 f.2 = some (fs', bs') ∧ (okAll bs = true → okAll bs' = true)
  | 0, g, w, fs, bs, h => by simp [conds] at h
  | n + 1, g, w, fs, bs, h => by
    intro f hf
    have h0 := h
    simp only [conds] at h
    split at h
    · cases h
      simp only [List.mem_singleton] at hf
      subst hf
      exact ⟨n + 1, _, _, h0, id⟩
    · cases h
      simp only [List.mem_singleton] at hf
      subst hf
      exact ⟨n + 1, _, _, h0, id⟩
    · split at h
      · next fs' bs' hc =>
        cases h
        rcases List.mem_cons.1 hf with rfl | hf
        · exact ⟨n + 1, _, _, h0, id⟩
        · obtain ⟨m, a, b, h1, h2⟩ := conds_chain n _ _ _ _ hc f hf
          exact ⟨m, a, b, h1, fun ho => h2 (by rw [okAll_snoc, Bool.and_eq_true] at ho; exact ho.1)⟩
      · cases h
    · split at h
      · next fs' bs' hc =>
        cases h
        rcases List.mem_cons.1 hf with rfl | hf
        · exact ⟨n + 1, _, _, h0, id⟩
        · obtain ⟨m, a, b, h1, h2⟩ := conds_chain n _ _ _ _ hc f hf
          exact ⟨m, a, b, h1, fun ho => h2 (by rw [okAll_snoc, Bool.and_eq_true] at ho; exact ho.1)⟩
      · cases h
    · cases h
theorem conds_flip {sl : List V} {n m g : Nat} {w : Bool} {fs fs2 : Facts} {bs bs2 : List (Bool × Bool)} (h : conds sl n g w = some (fs, bs)) (h2 : conds sl m g (!w) = some (fs2, bs2)) (ho : okAll bs2 = true) : okAll bs = false := by
  cases n with
  | zero => simp [conds] at h
  | succ n =>
    cases m with
    | zero => simp [conds] at h2
    | succ m =>
      simp only [conds] at h h2
      split at h
      · next b e =>
        cases h
        rw [e] at h2
        cases h2
        simp only [okAll, List.all_cons, List.all_nil, Bool.and_true] at ho ⊢
        cases b <;> cases w <;> simp_all
      · cases h; rfl
      · next g' w' b e =>
        rw [e] at h2
        simp only at h2
        split at h
        · cases h
          split at h2
          · cases h2
            rw [okAll_snoc, Bool.and_eq_true] at ho
            rw [okAll_snoc]
            have := ho.2
            cases b <;> cases w <;> simp_all
          · cases h2
        · cases h
      · split at h
        · cases h
          rw [okAll_snoc]
          simp
        · cases h
      · cases h
theorem kst_sound {kn : Kd} {sl : List V} (hk : KdR kn sl) {n g : Nat} {w t : Bool} {fs : Facts} {bs : List (Bool × Bool)} (hc : conds sl n g w = some (fs, bs)) (h : kst kn fs g w = some t) : okAll bs = t := by
  unfold kst at h
  split at h
  · next e => cases h; exact hk _ (kT_out e) n fs bs hc
  · split at h
    · next e =>
      cases h
      rw [List.any_eq_true] at e
      obtain ⟨f, hf, he⟩ := e
      obtain ⟨m, fs', bs', h1, h2⟩ := conds_chain n g w fs bs hc f hf
      have hfalse : okAll bs' = false := by
        simp only [kF, Bool.or_eq_true] at he
        rcases he with he | he
        · exact hk _ (kF0_out he) m fs' bs' h1
        ·
          cases m with
          | zero => simp [conds] at h1
          | succ m =>
            have : ∃ fs2 bs2, conds sl (m + 1) f.1 (!f.2) = some (fs2, bs2) := by
              simp only [conds] at h1 ⊢
              split at h1
              · exact ⟨_, _, rfl⟩
              · exact ⟨_, _, rfl⟩
              · split at h1
                · exact ⟨_, _, rfl⟩
                · cases h1
              · split at h1
                · exact ⟨_, _, rfl⟩
                · cases h1
              · cases h1
            obtain ⟨fs2, bs2, h3⟩ := this
            exact conds_flip h1 h3 (hk _ (kT_out he) _ _ _ h3)
      cases hb : okAll bs with
      | false => rfl
      | true => rw [h2 hb] at hfalse; cases hfalse
    · cases h
theorem kd_cons {kn : Kd} {sl : List V} (h : KdR kn sl) {p : Nat × Bool × Bool} (hp : ∀ n fs bs, conds sl n p.1 p.2.1 = some (fs, bs) → okAll bs = p.2.2) : KdR (p :: kn) sl := fun q hq => by
  rcases List.mem_cons.1 hq with rfl | hq
  · exact hp
  · exact h q hq
theorem conds_fuel {sl : List V} : ∀ (n m g : Nat) (w : Bool) (x y : Facts × List (Bool × Bool)), conds sl n g w = some x → conds sl m g w = some y → x = y
  | 0, m, g, w, x, y, h, _ => by simp [conds] at h
  | n + 1, 0, g, w, x, y, _, h => by simp [conds] at h
  | n + 1, m + 1, g, w, x, y, h1, h2 => by
    simp only [conds] at h1 h2
    split at h1
    · next e => rw [e] at h2; cases h1; cases h2; rfl
    · next e => rw [e] at h2; cases h1; cases h2; rfl
    · next e =>
      rw [e] at h2
      simp only at h2
      split at h1
      · next h3 =>
        split at h2
        · next h4 => cases h1; cases h2; cases conds_fuel n m _ _ _ _ h3 h4; rfl
        · cases h2
      · cases h1
    · next e =>
      rw [e] at h2
      simp only at h2
      split at h1
      · next h3 =>
        split at h2
        · next h4 => cases h1; cases h2; cases conds_fuel n m _ _ _ _ h3 h4; rfl
        · cases h2
      · cases h1
    · cases h1
theorem kthen_ok {kn : Kd} {sl : List V} (hk : KdR kn sl) {n g : Nat} {w : Bool} {fs : Facts} {bs : List (Bool × Bool)} (hc : conds sl n g w = some (fs, bs)) (ho : okAll bs = true) : KdR (kthen fs kn) sl := by
  intro p hp
  unfold kthen at hp
  rw [List.mem_append, List.mem_map] at hp
  rcases hp with ⟨f, hf, rfl⟩ | hp
  · obtain ⟨m, fs', bs', h1, h2⟩ := conds_chain n g w fs bs hc f hf
    intro n' fs2 bs2 h3
    cases conds_fuel m n' _ _ _ _ h1 h3
    exact h2 ho
  · exact hk p hp
theorem kelse_ok {kn : Kd} {sl : List V} (hk : KdR kn sl) {n g : Nat} {w : Bool} {fs : Facts} {bs : List (Bool × Bool)} (hc : conds sl n g w = some (fs, bs)) (ho : okAll bs = false) : KdR (kelse sl fs g w kn) sl := by
  have h1 : KdR ((g, w, false) :: kn) sl := kd_cons hk fun m fs2 bs2 h3 => by cases conds_fuel n m _ _ _ _ hc h3; exact ho
  unfold kelse
  split
  · next hall =>
    rw [Bool.and_eq_true] at hall
    obtain ⟨hB, hall⟩ := hall
    refine kd_cons h1 fun m fs2 bs2 h3 => ?_
    cases n with
    | zero => simp [conds] at hc
    | succ n =>
      cases m with
      | zero => simp [conds] at h3
      | succ m =>
        simp only [conds] at hc h3
        split at hc
        · next b e =>
          cases hc
          rw [e] at h3
          cases h3
          simp only [okAll, List.all_cons, List.all_nil, Bool.and_true] at ho ⊢
          cases b <;> cases w <;> simp_all
        · next u e => (unfold isB at hB; rw [e] at hB; cases hB)
        · next g' w' b e =>
          rw [e] at h3
          simp only at h3
          split at hc
          · next fs0 bs0 hc' =>
            cases hc
            split at h3
            · next hc2 =>
              cases conds_fuel n m _ _ _ _ hc' hc2
              cases h3
              have hin : okAll bs0 = true := by
                cases n with
                | zero => simp [conds] at hc'
                | succ n =>
                  have hh := hc'
                  have hm : (g', w') ∈ fs0 := by
                    simp only [conds] at hh
                    split at hh
                    · cases hh; exact List.mem_singleton.2 rfl
                    · cases hh; exact List.mem_singleton.2 rfl
                    · split at hh
                      · cases hh; exact List.mem_cons_self
                      · cases hh
                    · split at hh
                      · cases hh; exact List.mem_cons_self
                      · cases hh
                    · cases hh
                  rw [List.tail_cons, List.all_eq_true] at hall
                  exact hk _ (kT_out (hall _ hm)) _ _ _ hc'
              rw [okAll_snoc, hin] at ho ⊢
              cases b <;> cases w <;> simp_all
            · cases h3
          · cases hc
        · next e => (unfold isB at hB; rw [e] at hB; cases hB)
        · cases hc
  · exact h1
theorem conds_put {G : List Nat} {sl : List V} (hg : GdIn G sl) (d : Option Nat) (v : V) : ∀ (n g : Nat) (w : Bool) (x : Facts × List (Bool × Bool)), d ≠ some g → conds (putS G d v sl) n g w = some x → conds sl n g w = some x
  | 0, g, w, x, _, h => by simp [conds] at h
  | n + 1, g, w, x, hne, h => by
    cases d with
    | none => exact h
    | some d =>
      have hdg : d ≠ g := fun e => hne (by rw [e])
      have hslot : (putS G (some d) v sl).getD g .any = if G.contains d = true then ungd d (sl.getD g .any) else sl.getD g .any := by
        simp only [putS]
        split
        · rw [getD_set, if_neg (fun e => hdg e.1), getD_map_ungd]
        · rw [getD_set, if_neg (fun e => hdg e.1)]
      have hslot2 : (putS G (some d) v sl).getD g .any = sl.getD g .any ∧ (∀ g' w' y, sl.getD g .any = .gd g' w' y → g' ≠ d) ∨ (putS G (some d) v sl).getD g .any = .any := by
        rw [hslot]
        split
        · cases hh : sl.getD g .any with
          | gd g' w' y =>
            simp only [ungd]
            split
            · exact .inr rfl
            · next e => exact .inl ⟨rfl, fun g'' w'' y' e2 => by cases e2; exact e⟩
          | _ => exact .inl ⟨rfl, fun _ _ _ e => by cases e⟩
        · next hG => exact .inl ⟨rfl, fun g' w' y e e2 => hG (by subst e2; simpa using hg g g' w' y e)⟩
      rcases hslot2 with ⟨e, hgd⟩ | e
      · simp only [conds] at h ⊢
        rw [e] at h
        split at h
        · exact h
        · exact h
        · next g' w' b e2 =>
          split at h
          · next hc =>
            rw [conds_put hg (some d) v n g' w' _ (fun e3 => hgd g' w' _ e2 (by cases e3; rfl)) hc]
            exact h
          · cases h
        · next g' w' b e2 =>
          split at h
          · next hc =>
            rw [conds_put hg (some d) v n g' w' _ (fun e3 => hgd g' w' _ e2 (by cases e3; rfl)) hc]
            exact h
          · cases h
        · cases h
      · simp only [conds] at h
        rw [e] at h
        cases h
theorem kd_put {G : List Nat} {kn : Kd} {sl : List V} (hk : KdR kn sl) (hg : GdIn G sl) (d : Option Nat) (v : V) : KdR (kforget d kn) (putS G d v sl) := by
  intro p hp n fs bs hc
  cases d with
  | none => exact hk p hp n fs bs hc
  | some d =>
    simp only [kforget, List.mem_filter] at hp
    refine hk p hp.1 n fs bs (conds_put hg (some d) v n _ _ _ (fun e => ?_) hc)
    cases e
    have := hp.2
    simp at this
theorem gdin_put {G : List Nat} {sl : List V} (hg : GdIn G sl) (d : Option Nat) {v : V} (hv : ∀ g w x, v = .gd g w x → g ∈ G) : GdIn G (putS G d v sl) := by
  intro t g w x e
  cases d with
  | none => exact hg t g w x e
  | some d =>
    simp only [putS] at e
    split at e
    · rw [getD_set] at e
      split at e
      · exact hv g w x e
      · rw [getD_map_ungd] at e
        cases hh : sl.getD t .any with
        | gd g' w' x' =>
          rw [hh] at e
          simp only [ungd] at e
          split at e
          · cases e
          · cases e; exact hg t _ _ _ hh
        | _ => rw [hh] at e; simp [ungd] at e
    · rw [getD_set] at e
      split at e
      · exact hv g w x e
      · exact hg t g w x e
def aopD (P : Program) (C : Caller) (kn : Kd) (st : List Ob) (fs : Facts) (sl : List V) (op : Op) (k : V → List Ob → Prop) : Prop := match op with
  | .pick (.tmp c) x y => match kc kn c with
    | some t => match rdv sl fs (.tmp c) with
      | .x (.bool _) => match t with
        | true => k (rdv sl ((c, true) :: fs) x) st
        | false => k (rdv sl ((c, false) :: fs) y) st
      | _ => False
    | none => aop P C st fs (rdv sl) op k
  | _ => aop P C st fs (rdv sl) op k
theorem kc_sound {kn : Kd} {sl : List V} (hk : KdR kn sl) {fs : Facts} (hfs : ∀ f, f ∈ fs → ∃ m fs' bs', conds sl m f.1 f.2 = some (fs', bs') ∧ okAll bs' = true) {c : Nat} {b t : Bool} (hc : kc kn c = some t) (hr : rdv sl fs (.tmp c) = .x (.bool b)) : b = t := by
  have key : ∃ (n : Nat) (fs1 : Bool → Facts) (bs1 : List (Bool × Bool)), okAll bs1 = true ∧ ∀ w, conds sl n c w = some (fs1 w, bs1 ++ [(b, w)]) := by
    simp only [rdv] at hr
    split at hr
    · next g w v e =>
      split at hr
      · next hany =>
        subst hr
        rw [List.any_eq_true] at hany
        obtain ⟨f, hf, he⟩ := hany
        simp only [Bool.and_eq_true, beq_iff_eq] at he
        obtain ⟨m, fs', bs', h1, h2⟩ := hfs f hf
        rw [he.1, he.2] at h1
        exact ⟨m + 1, fun w' => (c, w') :: fs', bs', h2, fun w' => by simp only [conds, e, h1]⟩
      · cases hr
    · exact ⟨1, fun w' => [(c, w')], [], rfl, fun w' => by simp only [conds, hr]; rfl⟩
  obtain ⟨n, fs1, bs1, h1, h2⟩ := key
  have hT : ∀ w, kT kn c w = true → b = w := fun w h => by
    have := hk _ (kT_out h) n _ _ (h2 w)
    rw [okAll_snoc, h1] at this
    simpa using this
  have hF : ∀ w, kF0 kn c w = true → b = !w := fun w h => by
    have := hk _ (kF0_out h) n _ _ (h2 w)
    rw [okAll_snoc, h1] at this
    cases b <;> cases w <;> simp_all
  unfold kc at hc
  split at hc
  · next e =>
    cases hc
    rw [Bool.or_eq_true] at e
    rcases e with e | e
    · exact hT _ e
    · exact hF _ e
  · split at hc
    · next e =>
      cases hc
      rw [Bool.or_eq_true] at e
      rcases e with e | e
      · exact hT _ e
      · exact hF _ e
    · cases hc
theorem aopD_aop {P : Program} {C : Caller} {kn : Kd} {sl : List V} (hk : KdR kn sl) {st : List Ob} {fs : Facts} (hfs : ∀ f, f ∈ fs → ∃ m fs' bs', conds sl m f.1 f.2 = some (fs', bs') ∧ okAll bs' = true) {op : Op} {k : V → List Ob → Prop} (h : aopD P C kn st fs sl op k) : aop P C st fs (rdv sl) op k := by
  unfold aopD at h
  split at h
  · next c x y =>
    split at h
    · next t hc =>
      split at h
      · next b hr =>
        have hb := kc_sound hk hfs hc hr
        subst hb
        unfold aop
        simp only [aval, hr]
        cases hp : apick b (rdv sl ((c, true) :: fs) x) (rdv sl ((c, false) :: fs) y) with
        | none =>
          simp only [aeff, hr]
          cases b <;> exact h
        | some v =>
          simp only [andO]
          have : v = bif b then rdv sl ((c, true) :: fs) x else rdv sl ((c, false) :: fs) y := by
            unfold apick at hp
            split at hp
            · next e1 e2 => cases hp; rw [e1, e2]; cases b <;> rfl
            · next e1 e2 =>
              split at hp
              · next hkk => cases hp; subst hkk; rw [e1, e2]; cases b <;> rfl
              · cases hp
            · cases hp
          rw [this]
          cases b <;> exact h
      · exact h.elim
    · exact h
  · exact h
def aopsD (P : Program) (C : Caller) (G : List Nat) (ops : List Oper) : List Oper → Kd → List V → List Ob → (Kd → List V → List Ob → Prop) → Prop
  | [], kn, sl, st, K => K kn sl st
  | o :: rest, kn, sl, st, K => forceL sl fun sl =>
    match o.guard with
    | none => aopD P C kn st [] sl o.op fun v st' => aopsD P C G ops rest (kforget o.dst kn) (putS G o.dst (nogd v) sl) st' K
    | some (j, w) => match gslot ops j with
      | none => False
      | some g => match conds sl 8 g w with
        | none => False
        | some (fs, bs) =>
          if G.contains g = true then
            match aval P st fs (rdv sl) o.op, o.dst with
            | some (p, v), some d => if d = g then False else match kst kn fs g w with
              | none => andG bs p (aopsD P C G ops rest (kforget (some d) kn) (putS G (some d) (.gd g w (nogd v)) sl) st K)
              | some true => andO p (aopsD P C G ops rest (kforget (some d) kn) (putS G (some d) (.gd g w (nogd v)) sl) st K)
              | some false => aopsD P C G ops rest (kforget (some d) kn) (putS G (some d) (.gd g w (nogd v)) sl) st K
            | _, _ => match kst kn fs g w with
              | none => bif okAll bs then aopD P C (kthen fs kn) st fs sl o.op fun v st' => aopsD P C G ops rest (kforget o.dst (kthen fs kn)) (putS G o.dst (nogd v) sl) st' K
                else aopsD P C G ops rest (kforget o.dst (kelse sl fs g w kn)) (putS G o.dst (.x undef) sl) st K
              | some true => aopD P C kn st fs sl o.op fun v st' => aopsD P C G ops rest (kforget o.dst kn) (putS G o.dst (nogd v) sl) st' K
              | some false => aopsD P C G ops rest (kforget o.dst kn) (putS G o.dst (.x undef) sl) st K
          else False
theorem aopsD_aops {P : Program} {C : Caller} {Γ : Ctx} {G : List Nat} {ops : List Oper} : ∀ (l : List Oper) (kn : Kd) (sl : List V) (st : List Ob) (K : Kd → St) (K' : St), (∀ kn sl st, GdIn G sl → KdR kn sl → K kn sl st → K' sl st) → GdIn G sl → KdR kn sl → aopsD P (Cx0 P C Γ) G ops l kn sl st K → aops P (Cx P C Γ) G ops l sl st K'
  | [], kn, sl, st, K, K', hK, hg, hk, h => hK _ _ _ hg hk h
  | o :: rest, kn, sl, st, K, K', hK, hg, hk, h => by
    have hno : ∀ v : V, ∀ g w x, nogd v = .gd g w x → g ∈ G := fun v g w x e => absurd e nogd_ne
    have step : ∀ (kn' : Kd) (fs : Facts), KdR kn' sl → (∀ f, f ∈ fs → ∃ m fs' bs', conds sl m f.1 f.2 = some (fs', bs') ∧ okAll bs' = true) →
        (aopD P (Cx0 P C Γ) kn' st fs sl o.op fun v st' => aopsD P (Cx0 P C Γ) G ops rest (kforget o.dst kn') (putS G o.dst (nogd v) sl) st' K) →
        aop P (Cx P C Γ) st fs (rdv sl) o.op fun v st' => aops P (Cx P C Γ) G ops rest (putS G o.dst (nogd v) sl) st' K' := fun kn' fs hk' hfs h =>
      aop_le Cx0_le (fun v st' h => aopsD_aops rest _ _ st' K K' hK (gdin_put hg _ (hno v)) (kd_put hk' hg _ _) h) (aopD_aop hk' hfs h)
    have skip : ∀ (kn' : Kd), KdR kn' sl → aopsD P (Cx0 P C Γ) G ops rest (kforget o.dst kn') (putS G o.dst (.x undef) sl) st K → aops P (Cx P C Γ) G ops rest (putS G o.dst (.x undef) sl) st K' := fun kn' hk' h =>
      aopsD_aops rest _ _ st K K' hK (gdin_put hg _ (fun g w x e => by cases e)) (kd_put hk' hg _ _) h
    simp only [aopsD, forceL_eq] at h
    simp only [aops]
    split at h
    · next hgd => rw [hgd]; exact step kn [] hk (fun f hf => by simp at hf) h
    · next j w hgd =>
      rw [hgd]
      simp only
      split at h
      · exact h.elim
      · next g hgs =>
        rw [hgs]
        simp only
        split at h
        · exact h.elim
        · next fs bs hc =>
          rw [hc]
          simp only
          have hfs : okAll bs = true → ∀ f, f ∈ fs → ∃ m fs' bs', conds sl m f.1 f.2 = some (fs', bs') ∧ okAll bs' = true := fun ho f hf => by
            obtain ⟨m, a, b, h1, h2⟩ := conds_chain 8 g w fs bs hc f hf
            exact ⟨m, a, b, h1, h2 ho⟩
          split at h
          · next hG =>
            have hGm : g ∈ G := by simpa using hG
            split at h
            · next p v d hv hd =>
              split at h
              · exact h.elim
              · next hne =>
                have go : ∀ {q : Prop}, q = aopsD P (Cx0 P C Γ) G ops rest (kforget (some d) kn) (putS G (some d) (.gd g w (nogd v)) sl) st K → q → aops P (Cx P C Γ) G ops rest (putS G (some d) (.gd g w (nogd v)) sl) st K' := fun e hq => by
                  subst e
                  exact aopsD_aops rest _ _ st K K' hK (gdin_put hg _ (fun g' w' x' e => by cases e; exact hGm)) (kd_put hk hg _ _) hq
                simp only [if_pos hG, hv, hd, if_neg hne]
                split at h
                · cases p with
                  | none => exact go rfl h
                  | some p => exact ⟨h.1, go rfl h.2⟩
                · next hk' =>
                  cases p with
                  | none => exact go rfl h
                  | some p =>
                    refine ⟨?_, go rfl h.2⟩
                    have hp := h.1
                    clear h
                    have : ∀ (l : List (Bool × Bool)), imps l p := fun l => by
                      induction l with
                      | nil => exact hp
                      | cons x l ih => exact fun _ => ih
                    exact this bs
                · next hk' =>
                  have hb := kst_sound hk hc hk'
                  cases p with
                  | none => exact go rfl h
                  | some p =>
                    refine ⟨?_, go rfl h⟩
                    have : ∀ (l : List (Bool × Bool)), okAll l = false → imps l p := fun l => by
                      induction l with
                      | nil => intro e; simp [okAll] at e
                      | cons x l ih =>
                        intro e hx
                        refine ih ?_
                        simp only [okAll, List.all_cons] at e ⊢
                        rw [hx] at e
                        simpa using e
                    exact this bs hb
            · next hnv =>
              have h2 : (match kst kn fs g w with
                  | none => bif okAll bs then aopD P (Cx0 P C Γ) (kthen fs kn) st fs sl o.op fun v st' => aopsD P (Cx0 P C Γ) G ops rest (kforget o.dst (kthen fs kn)) (putS G o.dst (nogd v) sl) st' K
                    else aopsD P (Cx0 P C Γ) G ops rest (kforget o.dst (kelse sl fs g w kn)) (putS G o.dst (.x undef) sl) st K
                  | some true => aopD P (Cx0 P C Γ) kn st fs sl o.op fun v st' => aopsD P (Cx0 P C Γ) G ops rest (kforget o.dst kn) (putS G o.dst (nogd v) sl) st' K
                  | some false => aopsD P (Cx0 P C Γ) G ops rest (kforget o.dst kn) (putS G o.dst (.x undef) sl) st K) →
                  bif okAll bs then aop P (Cx P C Γ) st fs (rdv sl) o.op fun v st' => aops P (Cx P C Γ) G ops rest (putS G o.dst (nogd v) sl) st' K' else aops P (Cx P C Γ) G ops rest (putS G o.dst (.x undef) sl) st K' := by
                intro h
                cases hb : okAll bs with
                | true =>
                  cases hks : kst kn fs g w with
                  | none => rw [hks, hb] at h; exact step _ fs (kthen_ok hk hc hb) (hfs hb) h
                  | some t =>
                    have := kst_sound hk hc hks
                    rw [hb] at this
                    subst this
                    rw [hks] at h
                    exact step _ fs hk (hfs hb) h
                | false =>
                  cases hks : kst kn fs g w with
                  | none => rw [hks, hb] at h; exact skip _ (kelse_ok hk hc hb) h
                  | some t =>
                    have := kst_sound hk hc hks
                    rw [hb] at this
                    subst this
                    rw [hks] at h
                    exact skip _ hk h
              simp only [if_pos hG]
              have h3 := h2 h
              exact h3
          · exact h.elim
end Eng
end Go.Proofs.YtkpplfghhciacaaDoor
set_option linter.unusedVariables false
set_option linter.unusedSimpArgs false
namespace Go.Proofs.YtkpplfghhciacaaDoor
namespace Eng
open Go.RowKit
def kindOk (P : Program) (Γ : Ctx) (h i : Op) : Bool := (detK h && stillK P Γ i) || (stillK P Γ h && detK i) || pureK h || pureK i
def growK : Op → Bool
  | .alloc _ | .box _ _ | .makeSlice _ _ _ => true
  | _ => false
def flatB (P : Program) (t : TypeId) : Bool := match P.underlying t with
  | some (.slice e) => match tyOf P 20 e with
    | some τ => flatT τ
    | none => false
  | _ => false
def growP (P : Program) (o : Op) : Bool := growK o || (match o with
  | .buildSlice t _ _ => flatB P t
  | _ => false)
def kindOk2 (P : Program) (Γ : Ctx) (h i : Oper) : Bool := kindOk P Γ h.op i.op || (detK h.op && (growP P i.op && h.guard.isNone))
structure PairOk (P : Program) (Γ : Ctx) (ops : List Oper) (h i : Oper) : Prop where
  apart : Apart ops h i
  kind : kindOk2 P Γ h i = true
section
variable {P : Program} {C : Caller} {Γ : Ctx} {G : List Nat} {ops : List Oper}
def Owes (P : Program) (C : Caller) (Γ : Ctx) (G : List Nat) (ops : List Oper) (i : Oper) (sl : List V) (st : List Ob) : Prop := R P (Cx P C Γ) G ops i sl st fun _ _ => True
theorem R_owes {i : Oper} {sl : List V} {st : List Ob} {kk : V → List Ob → Prop} (h : R P (Cx P C Γ) G ops i sl st kk) : Owes P C Γ G ops i sl st := R_mono (fun _ _ _ => trivial) h
theorem det_val {i : Oper} {sl : List V} {st : List Ob} (hi : detK i.op = true) (ho : Owes P C Γ G ops i sl st) : ∃ v, okv ops i v ∧ ∀ kk, R P (Cx P C Γ) G ops i sl st kk ↔ kk v st := by
  obtain ⟨p, v, hv⟩ := R_det (P := P) (Γ := Γ) (G := G) (ops := ops) hi sl st
  have hp : p := ((hv _).1 ho).1
  refine ⟨v, ((hv _).1 (R_okv ho)).2.1, fun kk => ?_⟩
  rw [hv]
  exact ⟨fun h => h.2, fun h => ⟨hp, h⟩⟩
def Grown (st st' : List Ob) : Prop := st' = st ∨ ∃ ob, st' = st ++ [ob]
theorem get_grown {st : List Ob} {ob x : Ob} {r : Nat} (h : st[r]? = some x) : (st ++ [ob])[r]? = some x := by
  rw [List.getElem?_append_left (List.getElem?_eq_some_iff.1 h).1]
  exact h
theorem cellsAt_grown {st : List Ob} {ob : Ob} {v : V} {vs : List V} (h : cellsAt st v = some vs) : cellsAt (st ++ [ob]) v = some vs := by
  cases v with
  | cl r i =>
    simp only [cellsAt] at h ⊢
    split at h
    · next cs e => rw [get_grown e]; exact h
    · cases h
  | el r i j =>
    simp only [cellsAt] at h ⊢
    split at h
    · next t f xs e => rw [get_grown e]; exact h
    · cases h
  | _ => first | exact h | (simp [cellsAt] at h; done)
theorem poolAt_grown {ob : Ob} : ∀ {st : List Ob} {i : Nat} {pm : Nat × Pool}, poolAt i st = some pm → poolAt i (st ++ [ob]) = some pm
  | x :: st, i, pm, h => by
    cases x with
    | pool m => exact h
    | _ => exact poolAt_grown (st := st) h
theorem alen_grown {st : List Ob} {ob : Ob} {t : TypeId} {x : V} {n : Int} (h : alen P st t x = some n) : alen P (st ++ [ob]) t x = some n := by
  unfold alen at h ⊢
  split at h
  · next e => (try simp only [e]); exact h
  · next r e =>
    try simp only [e]
    split at h
    · next e2 => rw [get_grown e2]; exact h
    · cases h
  · next r _ n e =>
    try simp only [e]
    split at h
    · next e2 => rw [get_grown e2]; exact h
    · cases h
  · next e => (try simp only [e]); exact h
  · next e => (try simp only [e]); exact h
  · next e => (try simp only [e]); exact h
  · next e => (try simp only [e]); exact h
  · cases h
theorem aload_grown {st : List Ob} {ob : Ob} {t : TypeId} {a v : V} (h : aload P st t a = some v) : aload P (st ++ [ob]) t a = some v := by
  unfold aload at h ⊢
  split at h
  · next e => rw [cellsAt_grown e]; exact h
  · cases h
theorem load_grown {st : List Ob} {ob : Ob} {t : TypeId} {a : V} {r : Option Prop × V}
    (h : (match aload P st t a with | some v => some (none, v) | none => pload P st t a) = some r) : (match aload P (st ++ [ob]) t a with | some v => some (none, v) | none => pload P (st ++ [ob]) t a) = some r := by
  cases hl : aload P st t a with
  | some v => rw [hl] at h; rw [aload_grown hl]; exact h
  | none =>
    rw [hl] at h
    cases a with
    | pt a i =>
      have : aload P (st ++ [ob]) t (.pt a i) = none := rfl
      rw [this]
      simp only [pload] at h ⊢
      split at h
      · next q m e => rw [poolAt_grown e]; exact h
      · cases h
    | el r i j =>
      simp only [pload] at h
      split at h
      · next cs e =>
        have e' := get_grown (ob := ob) e
        have hz : aload P (st ++ [ob]) t (.el r i j) = none := by simp [aload, cellsAt, e']
        rw [hz]
        simp only [pload, e']
        exact h
      · cases h
    | _ => simp [pload] at h
theorem aelt_grown {st : List Ob} {ob : Ob} {s : Nat} {n : Int} {x v : V} (h : aelt st s n x = some v) : aelt (st ++ [ob]) s n x = some v := by
  cases x with
  | cl r k =>
    simp only [aelt] at h ⊢
    split at h
    · next cs e => simp only [get_grown e]; exact h
    · cases h
  | _ => exact h
theorem aindexAddr_grown {st : List Ob} {ob : Ob} {t : TypeId} {x i : V} {r : Option Prop × V} (h : aindexAddr P st t x i = some r) : aindexAddr P (st ++ [ob]) t x i = some r := by
  unfold aindexAddr at h ⊢
  split at h
  · next k n =>
    try simp only
    split at h
    · next e hu =>
      try simp only [hu]
      split at h
      · next inf hi =>
        try simp only [hi]
        split at h
        · exact h
        · next rr =>
          split at h
          · next e2 => simp only [get_grown e2]; exact h
          · cases h
        · next rr lo m =>
          split at h
          · next e2 => simp only [get_grown e2]; exact h
          · cases h
        · exact h
        · cases h
      · cases h
    · next len e hu =>
      try simp only [hu]
      split at h
      · next inf hi =>
        try simp only [hi]
        split at h
        · exact h
        · split at h
          · next v hv => simp only [aelt_grown hv]; exact h
          · cases h
      · cases h
    · cases h
  · cases h
theorem indexAddr_grown {st : List Ob} {ob : Ob} {t : TypeId} {x i : V} {r : Option Prop × V}
    (h : (match aindexAddr P st t x i with | some r => some r | none => pindexAddr P st t x i) = some r) : (match aindexAddr P (st ++ [ob]) t x i with | some r => some r | none => pindexAddr P (st ++ [ob]) t x i) = some r := by
  cases hl : aindexAddr P st t x i with
  | some v => rw [hl] at h; rw [aindexAddr_grown hl]; exact h
  | none =>
    rw [hl] at h
    simp only at h
    have hn : aindexAddr P (st ++ [ob]) t x i = none := by
      unfold pindexAddr at h
      split at h
      · next hd k n =>
        split at h
        · next e hu =>
          split at h
          · next inf _ _ hi _ => simp [aindexAddr, hu, hi]
          · cases h
        · cases h
      · cases h
    rw [hn]
    simp only
    unfold pindexAddr at h ⊢
    split at h
    · next hd k n =>
      try simp only
      split at h
      · next e hu =>
        try simp only [hu]
        split at h
        · next inf q m hi hm => simp only [hi, poolAt_grown hm]; exact h
        · cases h
      · cases h
    · cases h
theorem aval_grown {st : List Ob} {ob : Ob} {fs : Facts} {ρ : Facts → Operand → V} {o : Op} {r : Option Prop × V} (hd : detK o = true) (h : aval P st fs ρ o = some r) : aval P (st ++ [ob]) fs ρ o = some r := by
  cases o with
  | load t a => exact load_grown h
  | indexAddr t x i => exact indexAddr_grown h
  | call cl =>
    obtain ⟨callee, args, ts⟩ := cl
    cases callee with
    | builtin b =>
      cases b <;> first | (simp [detK, pureK] at hd; done) | skip
      all_goals
        simp only [aval] at h ⊢
        split at h
        · next v e =>
          have e2 : ∀ b, abi P st b ts.toList (args.toList.map (ρ fs)) = some v → abi P (st ++ [ob]) b ts.toList (args.toList.map (ρ fs)) = some v := fun b e => by
            unfold abi at e ⊢
            split at e
            · next t r x r' e1 e2 =>
              split at e
              · next n hn => simp only [e1, e2, alen_grown hn]; exact e
              · cases e
            · next e1 => (try simp only [e1]); exact e
            · next e1 => (try simp only [e1]); exact e
            · next e1 => (try simp only [e1]); exact e
            · cases e
          rw [e2 _ e]
          exact h
        · cases h
    | _ => simp [detK, pureK] at hd
  | slice t x lo hi mx =>
    cases mx with
    | none => exact h
    | some m => simp [detK, pureK] at hd
  | pick c a b =>
    cases c <;> exact h
  | _ => exact h
theorem det_grown {h : Oper} {sl : List V} {st : List Ob} (hd : detK h.op = true) (hg : h.guard = none) (ho : Owes P C Γ G ops h sl st) :
    ∃ v, okv ops h v ∧ ∀ st2, Grown st st2 → ∀ kk, R P (Cx P C Γ) G ops h sl st2 kk ↔ kk v st2 := by
  unfold Owes at ho
  simp only [R, hg] at ho
  cases hv : aval P st [] (rdv sl) h.op with
  | some pv =>
    obtain ⟨p, v⟩ := pv
    refine ⟨nogd v, fun g w x e => absurd e nogd_ne, fun st2 hst kk => ?_⟩
    have hv2 : aval P st2 [] (rdv sl) h.op = some (p, v) := by
      rcases hst with rfl | ⟨ob, rfl⟩
      · exact hv
      · exact aval_grown hd hv
    simp only [R, hg]
    unfold aop at ho ⊢
    rw [hv] at ho
    rw [hv2]
    cases p with
    | none => exact Iff.rfl
    | some p => exact ⟨fun g => g.2, fun g => ⟨ho.1, g⟩⟩
  | none =>
    unfold aop at ho
    rw [hv] at ho
    simp only at ho
    cases hop : h.op with
    | pick c a b =>
      rw [hop] at ho hv
      cases c with
      | tmp s =>
        simp only [aeff] at ho
        split at ho
        · next t e =>
          have key : ∀ st2 kk, R P (Cx P C Γ) G ops h sl st2 kk ↔ kk (nogd (bif t then rdv sl [(s, true)] a else rdv sl [(s, false)] b)) st2 := fun st2 kk => by
            have hv2 : aval P st2 [] (rdv sl) (.pick (.tmp s) a b) = none := hv
            simp only [R, hg, hop]
            unfold aop
            rw [hv2]
            simp only [aeff, e]
            cases t <;> exact Iff.rfl
          exact ⟨_, fun g w x e => absurd e nogd_ne, fun st2 _ kk => key st2 kk⟩
        · exact ho.elim
      | _ => rw [hop] at hd; simp [detK, pureK] at hd
    | call cl =>
      rw [hop] at ho hd
      obtain ⟨callee, args, ts⟩ := cl
      cases callee with
      | builtin b => cases b <;> first | (simp [detK, pureK] at hd; done) | (simp [aeff] at ho; done)
      | _ => simp [detK, pureK] at hd
    | _ => rw [hop] at ho hd; first | (simp [detK, pureK] at hd; done) | (simp [aeff] at ho; done)
def notRo : V → Prop
  | .ro _ _ => False
  | _ => True
theorem frzs_none : ∀ (cs : List V) (st : List Ob), (∀ v, v ∈ (frzs cs st).1 → notRo v) → (frzs cs st).2 = st
  | [], _, _ => rfl
  | v :: cs, st, h => by
    have plain : ∀ w, frzs (v :: cs) st = (w :: (frzs cs st).1, (frzs cs st).2) → (frzs (v :: cs) st).2 = st := by
      intro w e
      rw [e] at h ⊢
      exact frzs_none cs st fun x hx => h x (List.mem_cons_of_mem _ hx)
    cases v with
    | vec r =>
      cases hr : st[r]? with
      | none => exact plain .any (by simp only [frzs, hr])
      | some ob =>
        cases ob with
        | vec t f xs =>
          simp only [frzs, hr] at h
          exact (h (.ro t xs) (by simp)).elim
        | _ => exact plain .any (by simp only [frzs, hr])
    | vw r lo n =>
      cases hr : st[r]? with
      | none => exact plain .any (by simp only [frzs, hr])
      | some ob =>
        cases ob with
        | vec t f xs =>
          simp only [frzs, hr] at h
          exact (h (.ro t ((xs.drop lo).take n)) (by simp)).elim
        | _ => exact plain .any (by simp only [frzs, hr])
    | _ => exact plain _ rfl
theorem dec_flat : ∀ {t : Ty}, flatT t = true → ∀ {l : List V} {y : t.den} {r : List V}, dec t l = some (y, r) → ∃ l1, l = l1 ++ r ∧ ∀ v, v ∈ l1 → notRo v
  | .int k, _, l, y, r, h => by
    simp only [dec] at h
    split at h
    · split at h
      · cases h; exact ⟨[_], rfl, fun v hv => by rw [List.mem_singleton.1 hv]; trivial⟩
      · cases h
    · cases h
  | .bool, _, l, y, r, h => by
    simp only [dec] at h
    split at h
    · cases h; exact ⟨[_], rfl, fun v hv => by rw [List.mem_singleton.1 hv]; trivial⟩
    · cases h
  | .str, _, l, y, r, h => by
    simp only [dec] at h
    split at h
    · cases h; exact ⟨[_], rfl, fun v hv => by rw [List.mem_singleton.1 hv]; trivial⟩
    · cases h
  | .unit, _, l, y, r, h => by
    simp only [dec, Option.some.injEq, Prod.mk.injEq] at h
    obtain ⟨_, rfl⟩ := h
    exact ⟨[], rfl, fun v hv => by cases hv⟩
  | .pair a b, hf, l, y, r, h => by
    simp only [flatT, Bool.and_eq_true] at hf
    simp only [dec] at h
    split at h
    · next x r1 e1 =>
      split at h
      · next y2 r2 e2 =>
        simp only [Option.some.injEq, Prod.mk.injEq] at h
        obtain ⟨_, rfl⟩ := h
        obtain ⟨l1, rfl, h1⟩ := dec_flat hf.1 e1
        obtain ⟨l2, rfl, h2⟩ := dec_flat hf.2 e2
        refine ⟨l1 ++ l2, by simp, fun v hv => ?_⟩
        rcases List.mem_append.1 hv with hv | hv
        · exact h1 v hv
        · exact h2 v hv
      · cases h
    · cases h
  | .slice e, hf, _, _, _, _ => by simp [flatT] at hf
  | .hnd, _, l, y, r, h => by
    simp only [dec] at h
    split at h
    · cases h; exact ⟨[_], rfl, fun v hv => by rw [List.mem_singleton.1 hv]; trivial⟩
    · cases h; exact ⟨[_], rfl, fun v hv => by rw [List.mem_singleton.1 hv]; trivial⟩
    · cases h
theorem decRows_flat {t : Ty} (hf : flatT t = true) : ∀ {n : Nat} {l : List V} {ys : List t.den}, decRows t n l = some ys → ∀ v, v ∈ l → notRo v
  | 0, [], _, _, v, hv => by cases hv
  | 0, _ :: _, _, h, _, _ => by simp [decRows] at h
  | n + 1, l, ys, h, v, hv => by
    simp only [decRows] at h
    split at h
    · next y r e =>
      split at h
      · next ys' hys =>
        obtain ⟨l1, rfl, h1⟩ := dec_flat hf e
        rcases List.mem_append.1 hv with hv | hv
        · exact h1 v hv
        · exact decRows_flat hf hys v hv
      · cases h
    · cases h
theorem hndT_flat : ∀ {t : Ty}, flatT t = true → hndT t = t
  | .int _, _ => rfl
  | .bool, _ => rfl
  | .str, _ => rfl
  | .unit, _ => rfl
  | .pair a b, h => by
    simp only [flatT, Bool.and_eq_true] at h
    simp only [hndT, hndT_flat h.1, hndT_flat h.2]
  | .slice e, h => by simp [flatT] at h
  | .hnd, _ => rfl
theorem abuild_grown {st : List Ob} {t : TypeId} {n : Nat} {parts : List (Nat × V)} {v : V} {st' : List Ob} (hf : flatB P t = true) (h : abuildSlice P st t n parts = some (v, st')) : Grown st st' := by
  unfold flatB at hf
  unfold abuildSlice at h
  cases hu : P.underlying t with
  | none => rw [hu] at hf; cases hf
  | some u =>
    rw [hu] at hf h
    cases u with
    | slice e =>
      simp only at hf h
      cases ht : tyOf P 20 e with
      | none => rw [ht] at hf; cases hf
      | some τ =>
        rw [ht] at hf
        simp only at hf
        have hty : tyP P st e = some τ := by
          unfold tyP
          rw [ht]
          cases poolAt 0 st with
          | none => rfl
          | some p => simp only [hndT_flat hf]
        rw [hty] at h
        cases hz : zeroV P e with
        | none => rw [hz] at h; simp only at h; cases h
        | some zs =>
          rw [hz] at h
          simp only at h
          split at h
          · split at h
            · split at h
              · next cs _ =>
                split at h
                · next ys hys =>
                  have hfr := frzs_none cs st (decRows_flat hf hys)
                  rw [hfr] at h
                  cases h
                  exact .inr ⟨_, rfl⟩
                · cases h
              · cases h
            · cases h
          · cases h
    | _ => simp at hf
theorem aop_grown {st : List Ob} {fs : Facts} {sl : List V} {o : Op} (hk : growP P o = true) {k : V → List Ob → Prop} (h : aop P (Cx P C Γ) st fs (rdv sl) o k) : aop P (Cx P C Γ) st fs (rdv sl) o fun v st' => Grown st st' ∧ k v st' := by
  cases o with
  | alloc t =>
    simp only [aop, aval, aeff] at h ⊢
    split at h
    · exact ⟨.inr ⟨_, rfl⟩, h⟩
    · exact h.elim
  | box t x =>
    simp only [aop, aval, aeff] at h ⊢
    split at h
    · exact ⟨.inr ⟨_, rfl⟩, h⟩
    · exact h.elim
  | makeSlice t l c =>
    simp only [aop, aval, aeff] at h ⊢
    split at h
    · next p v st' e =>
      have hg : Grown st st' := by
        unfold amake at e
        split at e
        · split at e
          · split at e
            · split at e
              · cases e; exact .inr ⟨_, rfl⟩
              · cases e
            · cases e
          · cases e
        · cases e
      cases p with
      | none => exact ⟨hg, h⟩
      | some p => exact ⟨h.1, hg, h.2⟩
    · exact h.elim
  | buildSlice t n parts =>
    simp only [aop, aval, aeff] at h ⊢
    split at h
    · next v st' e => exact ⟨abuild_grown (by simpa [growP, growK] using hk) e, h⟩
    · exact h.elim
  | _ => simp [growP, growK] at hk
theorem R_grown {o : Oper} (hk : growP P o.op = true) {sl : List V} {st : List Ob} {kk : V → List Ob → Prop} (h : R P (Cx P C Γ) G ops o sl st kk) : R P (Cx P C Γ) G ops o sl st fun v st' => Grown st st' ∧ kk v st' := by
  cases hg : o.guard with
  | none => simp only [R, hg] at *; exact aop_grown hk h
  | some jw =>
    obtain ⟨j, w⟩ := jw
    cases hgs : gslot ops j with
    | none => simp [R, hg, hgs] at h
    | some g =>
      cases hc : conds sl 8 g w with
      | none => simp [R, hg, hgs, hc] at h
      | some fb =>
        obtain ⟨fs, bs⟩ := fb
        by_cases hG : G.contains g = true
        · have alt : (bif okAll bs then aop P (Cx P C Γ) st fs (rdv sl) o.op (fun v st' => kk (nogd v) st') else kk (.x undef) st) →
              (bif okAll bs then aop P (Cx P C Γ) st fs (rdv sl) o.op (fun v st' => Grown st st' ∧ kk (nogd v) st') else Grown st st ∧ kk (.x undef) st) := by
            cases okAll bs with
            | true => exact aop_grown hk
            | false => exact fun h => ⟨.inl rfl, h⟩
          have hv : aval P st fs (rdv sl) o.op = none := by
            cases ho : o.op with
            | alloc t => rfl
            | box t x => rfl
            | makeSlice t l c => rfl
            | buildSlice t n parts => rfl
            | _ => rw [ho] at hk; simp [growP, growK] at hk
          cases hd : o.dst with
          | none => simp only [R, hg, hgs, hc, hG, if_true, hd, hv] at *; exact alt h
          | some d => simp only [R, hg, hgs, hc, hG, if_true, hd, hv] at *; exact alt h
        · simp only [R, hg, hgs, hc, if_neg hG] at h
theorem swap {h i : Oper} (hm : h ∈ ops) (hp : PairOk P Γ ops h i) {rest : List Oper} {sl : List V} {st : List Ob} {K : St} (hs : GdS ops sl)
    (ho : detK i.op = true → Owes P C Γ G ops i sl st) (hx : aops P (Cx P C Γ) G ops (h :: i :: rest) sl st K) : aops P (Cx P C Γ) G ops (i :: h :: rest) sl st K := by
  rw [aops_cons] at *
  have ha := hp.apart
  have hai : Apart ops i h := ⟨ha.h2, ha.h1, fun d e1 e2 => ha.h3 d e2 e1⟩
  have ci : ∀ v, okv ops h v → ∀ st1 kk, R P (Cx P C Γ) G ops i (putS G h.dst v sl) st1 kk = R P (Cx P C Γ) G ops i sl st1 kk := fun v hv st1 kk => R_congr (alike_put ha hs v) (gds_put hm hs hv) kk
  by_cases hgr : detK h.op = true ∧ growP P i.op = true ∧ h.guard = none
  · obtain ⟨hd, hki, hgn⟩ := hgr
    obtain ⟨vh, hvh, hval⟩ := det_grown (h := h) hd hgn (R_owes hx)
    have h1 := (hval _ (.inl rfl) _).1 hx
    rw [aops_cons, ci vh hvh] at h1
    refine R_mono (fun vi st2 g => ?_) (R_grown hki (R_okv h1))
    obtain ⟨hgro, hvi, g⟩ := g
    rw [aops_cons]
    have ch : R P (Cx P C Γ) G ops h sl st2 (fun v st' => aops P (Cx P C Γ) G ops rest (putS G h.dst v (putS G i.dst vi sl)) st' K) = R P (Cx P C Γ) G ops h (putS G i.dst vi sl) st2 (fun v st' => aops P (Cx P C Γ) G ops rest (putS G h.dst v (putS G i.dst vi sl)) st' K) :=
      R_congr (fun t ht => (alike_put hai hs vi t ht).symm) hs _
    rw [← ch, hval st2 hgro]
    rw [← put_comm ha hvh hvi sl]
    exact g
  have hkind : kindOk P Γ h.op i.op = true := by
    have hk := hp.kind
    simp only [kindOk2, Bool.or_eq_true, Bool.and_eq_true, Option.isNone_iff_eq_none] at hk
    exact hk.resolve_right hgr
  by_cases hhd : detK h.op = true ∧ (stillK P Γ i.op = true ∨ pureK h.op = true)
  · obtain ⟨hd, hsi⟩ := hhd
    obtain ⟨vh, hvh, hval⟩ := det_val (i := h) hd (R_owes hx)
    have h1 := (hval _).1 hx
    rw [aops_cons, ci vh hvh] at h1
    have h2 : R P (Cx P C Γ) G ops i sl st fun vi st2 => okv ops i vi ∧ (pureK h.op = true ∨ st2 = st) ∧ aops P (Cx P C Γ) G ops rest (putS G i.dst vi (putS G h.dst vh sl)) st2 K := by
      have h3 := R_okv h1
      rcases hsi with hst | hpu
      · exact R_mono (fun v st' g => ⟨g.2.1, .inr g.1, g.2.2⟩) (R_still hst h3)
      · exact R_mono (fun v st' g => ⟨g.1, .inl hpu, g.2⟩) h3
    refine R_mono (fun vi st2 g => ?_) h2
    obtain ⟨hvi, hst, g⟩ := g
    rw [aops_cons]
    have ch : R P (Cx P C Γ) G ops h sl st2 (fun v st' => aops P (Cx P C Γ) G ops rest (putS G h.dst v (putS G i.dst vi sl)) st' K) = R P (Cx P C Γ) G ops h (putS G i.dst vi sl) st2 (fun v st' => aops P (Cx P C Γ) G ops rest (putS G h.dst v (putS G i.dst vi sl)) st' K) :=
      R_congr (fun t ht => (alike_put hai hs vi t ht).symm) hs _
    rw [← ch]
    have hb : R P (Cx P C Γ) G ops h sl st fun vh' _ => aops P (Cx P C Γ) G ops rest (putS G h.dst vh' (putS G i.dst vi sl)) st2 K := by
      rw [hval]
      rw [← put_comm ha hvh hvi sl]
      exact g
    rcases hst with hpu | rfl
    · exact (R_pure hpu sl st st2 _).2 hb
    · rw [hval] at hb ⊢
      exact hb
  · have hki : detK i.op = true ∧ (stillK P Γ h.op = true ∨ pureK i.op = true) := by
      have hk := hkind
      have pd : ∀ o, pureK o = true → detK o = true := fun o ho => by simp [detK, ho]
      have ds : ∀ o, detK o = true → stillK P Γ o = true := fun o ho => by simp [stillK, ho]
      simp only [kindOk, Bool.or_eq_true, Bool.and_eq_true] at hk
      rcases hk with ((⟨a, b⟩ | ⟨a, b⟩) | a) | a
      · exact absurd ⟨a, .inl b⟩ hhd
      · exact ⟨b, .inl a⟩
      · exact absurd ⟨pd _ a, .inr a⟩ hhd
      · exact ⟨pd _ a, .inr a⟩
    obtain ⟨hdi, hsh⟩ := hki
    obtain ⟨vi, hvi, hval⟩ := det_val (i := i) hdi (ho hdi)
    rw [hval, aops_cons]
    have h1 : R P (Cx P C Γ) G ops h sl st fun vh st1 => okv ops h vh ∧ (pureK i.op = true ∨ st1 = st) ∧ aops P (Cx P C Γ) G ops (i :: rest) (putS G h.dst vh sl) st1 K := by
      have h3 := R_okv hx
      rcases hsh with hst | hpu
      · exact R_mono (fun v st' g => ⟨g.2.1, .inr g.1, g.2.2⟩) (R_still hst h3)
      · exact R_mono (fun v st' g => ⟨g.1, .inl hpu, g.2⟩) h3
    have h2 : R P (Cx P C Γ) G ops h sl st fun vh st1 => aops P (Cx P C Γ) G ops rest (putS G h.dst vh (putS G i.dst vi sl)) st1 K := by
      refine R_mono (fun vh st1 g => ?_) h1
      obtain ⟨hvh, hst, g⟩ := g
      rw [aops_cons, ci vh hvh] at g
      rw [← put_comm ha hvh hvi sl]
      rcases hst with hpu | rfl
      · exact (hval _).1 ((R_pure hpu sl st st1 _).1 g)
      · exact (hval _).1 g
    rw [← R_congr (P := P) (G := G) (C := Cx P C Γ) (st := st) (fun t ht => (alike_put hai hs vi t ht).symm) hs]
    exact h2
theorem front {i : Oper} (him : i ∈ ops) : ∀ (l1 : List Oper) (l2 : List Oper) (sl : List V) (st : List Ob) (K : St), (∀ h, h ∈ l1 → h ∈ ops ∧ PairOk P Γ ops h i) → GdS ops sl →
    (detK i.op = true → Owes P C Γ G ops i sl st) → aops P (Cx P C Γ) G ops (l1 ++ i :: l2) sl st K → aops P (Cx P C Γ) G ops (i :: (l1 ++ l2)) sl st K
  | [], l2, sl, st, K, _, _, _, h => h
  | h :: l1, l2, sl, st, K, hl, hs, ho, hx => by
    obtain ⟨hm, hp⟩ := hl h (by simp)
    refine swap hm hp hs ho ?_
    rw [List.cons_append, aops_cons] at hx
    rw [aops_cons]
    have h1 := R_okv hx
    by_cases hdi : detK i.op = true
    · have h2 : R P (Cx P C Γ) G ops h sl st fun v st' => (okv ops h v ∧ aops P (Cx P C Γ) G ops (l1 ++ i :: l2) (putS G h.dst v sl) st' K) ∧ (st' = st ∨ pureK i.op = true) := by
        have hk := hp.kind
        simp only [kindOk2, kindOk, Bool.or_eq_true, Bool.and_eq_true] at hk
        have pd : ∀ o, pureK o = true → detK o = true := fun o ho => by simp [detK, ho]
        have ds : ∀ o, detK o = true → stillK P Γ o = true := fun o ho => by simp [stillK, ho]
        have : stillK P Γ h.op = true ∨ pureK i.op = true := by
          rcases hk with (((⟨a, b⟩ | ⟨a, b⟩) | a) | a) | ⟨a, b⟩
          · exact .inl (ds _ a)
          · exact .inl a
          · exact .inl (ds _ (pd _ a))
          · exact .inr a
          · exact .inl (ds _ a)
        rcases this with hst | hpu
        · exact R_mono (fun v st' g => ⟨g.2, .inl g.1⟩) (R_still hst h1)
        · exact R_mono (fun v st' g => ⟨g, .inr hpu⟩) h1
      refine R_mono (fun v st' g => ?_) h2
      obtain ⟨⟨hv, g⟩, hst⟩ := g
      refine front him l1 l2 _ st' K (fun x hx => hl x (by simp [hx])) (gds_put hm hs hv) (fun _ => ?_) g
      unfold Owes
      rw [R_congr (alike_put hp.apart hs v) (gds_put hm hs hv)]
      rcases hst with rfl | hpu
      · exact ho hdi
      · exact (R_pure hpu sl st st' _).2 (ho hdi)
    · refine R_mono (fun v st' g => ?_) h1
      exact front him l1 l2 _ st' K (fun x hx => hl x (by simp [hx])) (gds_put hm hs g.1) (fun e => absurd e hdi) g.2
theorem owes_behind {i : Oper} (hdi : detK i.op = true) : ∀ (l1 : List Oper) (l2 : List Oper) (sl : List V) (st : List Ob) (K : St), (∀ h, h ∈ l1 → h ∈ ops ∧ PairOk P Γ ops h i) → GdS ops sl →
    aops P (Cx P C Γ) G ops (l1 ++ i :: l2) sl st K → aops P (Cx P C Γ) G ops l1 sl st fun _ _ => Owes P C Γ G ops i sl st
  | [], l2, sl, st, K, _, _, h => by
    rw [List.nil_append, aops_cons] at h
    exact R_owes h
  | h :: l1, l2, sl, st, K, hl, hs, hx => by
    obtain ⟨hm, hp⟩ := hl h (by simp)
    rw [List.cons_append, aops_cons] at hx
    rw [aops_cons]
    have h1 := R_okv hx
    have hk := hp.kind
    simp only [kindOk2, kindOk, Bool.or_eq_true, Bool.and_eq_true] at hk
    have pd : ∀ o, pureK o = true → detK o = true := fun o ho => by simp [detK, ho]
    have ds : ∀ o, detK o = true → stillK P Γ o = true := fun o ho => by simp [stillK, ho]
    have hor : stillK P Γ h.op = true ∨ pureK i.op = true := by
      rcases hk with (((⟨a, b⟩ | ⟨a, b⟩) | a) | a) | ⟨a, b⟩
      · exact .inl (ds _ a)
      · exact .inl a
      · exact .inl (ds _ (pd _ a))
      · exact .inr a
      · exact .inl (ds _ a)
    have h2 : R P (Cx P C Γ) G ops h sl st fun v st' => (okv ops h v ∧ aops P (Cx P C Γ) G ops (l1 ++ i :: l2) (putS G h.dst v sl) st' K) ∧ (st' = st ∨ pureK i.op = true) := by
      rcases hor with hst | hpu
      · exact R_mono (fun v st' g => ⟨g.2, .inl g.1⟩) (R_still hst h1)
      · exact R_mono (fun v st' g => ⟨g, .inr hpu⟩) h1
    refine R_mono (fun v st' g => ?_) h2
    obtain ⟨⟨hv, g⟩, hst⟩ := g
    have := owes_behind hdi l1 l2 _ st' K (fun x hx => hl x (by simp [hx])) (gds_put hm hs hv) g
    refine aops_mono l1 _ _ _ _ (fun _ _ ho => ?_) this
    unfold Owes at *
    rw [R_congr (alike_put hp.apart hs v) (gds_put hm hs hv)] at ho
    rcases hst with rfl | hpu
    · exact ho
    · exact (R_pure hpu sl st st' _).1 ho
end
end Eng
end Go.Proofs.YtkpplfghhciacaaDoor
set_option linter.unusedVariables false
set_option linter.unusedSimpArgs false
namespace Go.Proofs.YtkpplfghhciacaaDoor
namespace Eng
open Go.RowKit
inductive Path (ops : List Oper) : Nat → Nat → Prop
  | step {o : Oper} {j : Nat} {e : Edge} (ho : ops[j]? = some o) (he : e ∈ o.after.toList) (hb : Region.binds .any e = true) : Path ops e.on j
  | more {o : Oper} {h j : Nat} {e : Edge} (ho : ops[j]? = some o) (he : e ∈ o.after.toList) (hb : Region.binds .any e = true) (hp : Path ops h e.on) : Path ops h j
def befF (acc : List Nat) (o : Oper) : Nat := o.after.toList.foldl (fun s e => if Region.binds .any e = true then (s ||| 2 ^ e.on) ||| acc.getD e.on 0 else s) 0
def befG : List Oper → List Nat → List Nat
  | [], acc => acc
  | o :: r, acc => befG r (acc ++ [befF acc o])
theorem befF_sound {acc : List Nat} {h : Nat} : ∀ (l : List Edge) (s : Nat), (l.foldl (fun s e => if Region.binds .any e = true then (s ||| 2 ^ e.on) ||| acc.getD e.on 0 else s) s).testBit h = true →
    s.testBit h = true ∨ ∃ e, e ∈ l ∧ Region.binds .any e = true ∧ (h = e.on ∨ (acc.getD e.on 0).testBit h = true)
  | [], s, hb => .inl hb
  | e :: l, s, hb => by
    rw [List.foldl_cons] at hb
    rcases befF_sound l _ hb with h1 | ⟨e', h1, h2, h3⟩
    · split at h1
      · next hbe =>
        rw [Nat.testBit_or, Nat.testBit_or, Bool.or_eq_true, Bool.or_eq_true] at h1
        rcases h1 with (h1 | h1) | h1
        · exact .inl h1
        · rw [Nat.testBit_two_pow] at h1
          exact .inr ⟨e, by simp, hbe, .inl (by simpa using (of_decide_eq_true h1).symm)⟩
        · exact .inr ⟨e, by simp, hbe, .inr h1⟩
      · exact .inl h1
    · exact .inr ⟨e', by simp [h1], h2, h3⟩
theorem befG_sound {ops : List Oper} : ∀ (r : List Oper) (d : List Oper) (acc : List Nat), ops = d ++ r → acc.length = d.length → (∀ j h, (acc.getD j 0).testBit h = true → Path ops h j) →
    ∀ j h, ((befG r acc).getD j 0).testBit h = true → Path ops h j
  | [], d, acc, _, _, hi => hi
  | o :: r, d, acc, he, hl, hi => by
    refine befG_sound r (d ++ [o]) (acc ++ [befF acc o]) (by simp [he]) (by simp [hl]) fun j h hb => ?_
    rcases Nat.lt_trichotomy j acc.length with g | g | g
    · rw [List.getD_eq_getElem?_getD, List.getElem?_append_left g, ← List.getD_eq_getElem?_getD] at hb
      exact hi j h hb
    · subst g
      rw [List.getD_eq_getElem?_getD, List.getElem?_append_right (Nat.le_refl _)] at hb
      simp only [Nat.sub_self, List.getElem?_cons_zero, Option.getD_some] at hb
      have ho : ops[acc.length]? = some o := by rw [he, hl, List.getElem?_append_right (Nat.le_refl _)]; simp
      rcases befF_sound _ _ hb with h1 | ⟨e, h1, h2, h3⟩
      · simp at h1
      · rcases h3 with rfl | h3
        · exact .step ho h1 h2
        · exact .more ho h1 h2 (hi _ _ h3)
    · rw [List.getD_eq_getElem?_getD, List.getElem?_eq_none (by simp; omega)] at hb
      simp at hb
def apartB (ops : List Oper) (o1 o2 : Oper) : Bool :=
  (match o1.dst with | some d => !(LK ops 9 o2).contains d | none => true) &&
  (match o2.dst with | some d => !(LK ops 9 o1).contains d | none => true) &&
  (match o1.dst, o2.dst with | some d, some d' => !(Nat.beq d d') | _, _ => true)
theorem apartB_sound {ops : List Oper} {o1 o2 : Oper} (h : apartB ops o1 o2 = true) : Apart ops o1 o2 := by
  simp only [apartB, Bool.and_eq_true] at h
  obtain ⟨⟨h1, h2⟩, h3⟩ := h
  refine ⟨fun d hd => ?_, fun d hd => ?_, fun d hd hd2 => ?_⟩
  · rw [hd] at h1; simpa using h1
  · rw [hd] at h2; simpa using h2
  · rw [hd, hd2] at h3
    simp at h3
def commB (P : Program) (Γ : Ctx) (ops : List Oper) (h i : Nat) : Bool := match ops[h]?, ops[i]? with
  | some o', some o => kindOk2 P Γ o' o && apartB ops o' o
  | _, _ => false
def confl0 (P : Program) (Γ : Ctx) (ops : List Oper) : List Nat :=
  (List.range ops.length).filter fun i => (List.range ops.length).any fun h =>
    !(Nat.beq h i) && !(bif Nat.blt h i then Nat.testBit ((befG ops []).getD i 0) h || commB P Γ ops h i else Nat.testBit ((befG ops []).getD h 0) i || commB P Γ ops i h)
def confl (P : Program) (Γ : Ctx) (ops : List Oper) : List Nat :=
  (List.range ops.length).filter fun i => (confl0 P Γ ops).contains i || ((match ops[i]? with
    | some o => growP P o.op
    | none => false) && (confl0 P Γ ops).any fun k => Nat.testBit ((befG ops []).getD k 0) i)
def elig (ops : List Oper) (K p : List Nat) : List Nat :=
  K.filter fun j => !(p.contains j) && K.all fun k => p.contains k || !(Nat.testBit ((befG ops []).getD j 0) k)
def leaves (ops : List Oper) (K : List Nat) : Nat → List Nat → List (List Nat)
  | 0, p => [p]
  | n + 1, p => (elig ops K p).flatMap fun j => leaves ops K n (p ++ [j])
def readyB (ops : List Oper) (rem : List Nat) (i : Nat) : Bool := match ops[i]? with
  | some o => o.after.toList.all fun e => !Region.binds .any e || !(rem.contains e.on)
  | none => false
def ordGo (ops : List Oper) (K : List Nat) : Nat → List Nat → List Nat → List Nat
  | 0, _, _ => []
  | n + 1, rem, q => match rem.find? fun i => readyB ops rem i && (!(K.contains i) || (match q with | j :: _ => Nat.beq i j | [] => false)) with
    | some i => i :: ordGo ops K n (rem.filter fun j => !(Nat.beq j i)) (bif K.contains i then q.tail else q)
    | none => []
def ordOf (ops : List Oper) (K p : List Nat) : List Nat := ordGo ops K ops.length (List.range ops.length) p
def ordOk (P : Program) (Γ : Ctx) (ops : List Oper) (K q : List Nat) : List Nat → Bool
  | [] => true
  | h :: r => (r.all fun i => !(Nat.beq h i) && (Nat.testBit ((befG ops []).getD i 0) h || (commB P Γ ops h i || ((K.contains h && K.contains i) || K.any fun j => q.contains j && Nat.testBit ((befG ops []).getD j 0) h)))) && ordOk P Γ ops K q r
def eqL : List Nat → List Nat → Bool
  | [], [] => true
  | a :: r, b :: s => Nat.beq a b && eqL r s
  | _, _ => false
theorem eqL_eq : ∀ {a b : List Nat}, eqL a b = true → a = b
  | [], [], _ => rfl
  | a :: r, b :: s, h => by
    simp only [eqL, Bool.and_eq_true] at h
    rw [Nat.eq_of_beq_eq_true h.1, eqL_eq h.2]
  | [], _ :: _, h | _ :: _, [], h => by simp [eqL] at h
def orderOk (P : Program) (Γ : Ctx) (ops : List Oper) (K p l : List Nat) : Bool :=
  ordOk P Γ ops K p l && (Nat.beq l.length ops.length && ((List.range ops.length).all fun i => l.contains i) && eqL (l.filter fun i => K.contains i) p)
def edgesOk (ops : List Oper) : Bool :=
  (List.range ops.length).all fun i => (match ops[i]? with
    | some o => o.after.toList.all (fun e => !Region.binds .any e || Nat.blt e.on i)
    | none => false)
theorem edgesOk_edge {ops : List Oper} (h : edgesOk ops = true) {i : Nat} {o : Oper} (ho : ops[i]? = some o) {e : Edge} (he : e ∈ o.after.toList) (hb : Region.binds .any e = true) : e.on < i := by
  have hi : i < ops.length := (List.getElem?_eq_some_iff.1 ho).1
  simp only [edgesOk, List.all_eq_true] at h
  have := h i (by simpa using hi)
  rw [ho] at this
  simp only [List.all_eq_true] at this
  have := this e he
  rw [hb] at this
  simp [Nat.blt] at this
  omega
theorem bef_path {ops : List Oper} {i h : Nat} (hb : Nat.testBit ((befG ops []).getD i 0) h = true) : Path ops h i :=
  befG_sound ops [] [] (by simp) rfl (fun j h hb => by simp at hb) i h hb
theorem commB_pair {P : Program} {Γ : Ctx} {ops : List Oper} {h i : Nat} {o' o : Oper} (ho' : ops[h]? = some o') (ho : ops[i]? = some o) (hc : commB P Γ ops h i = true) : PairOk P Γ ops o' o := by
  unfold commB at hc
  rw [ho', ho] at hc
  simp only [Bool.and_eq_true] at hc
  exact ⟨apartB_sound hc.2, hc.1⟩
theorem ordOk_pair {P : Program} {Γ : Ctx} {ops : List Oper} {K q : List Nat} : ∀ {l s t : List Nat} {i : Nat}, ordOk P Γ ops K q l = true → l = s ++ i :: t → ∀ h, h ∈ s → h ≠ i ∧ (Path ops h i ∨ commB P Γ ops h i = true ∨ (K.contains h = true ∧ K.contains i = true) ∨ ∃ j, j ∈ K ∧ j ∈ q ∧ Path ops h j)
  | _, [], t, i, _, _, h, hh => by simp at hh
  | _, x :: s, t, i, ho, e, h, hh => by
    subst e
    simp only [List.cons_append, ordOk, Bool.and_eq_true, List.all_eq_true] at ho
    rcases List.mem_cons.1 hh with rfl | hh
    · have := ho.1 i (by simp)
      simp only [Bool.or_eq_true, Bool.and_eq_true] at this
      refine ⟨fun e => by subst e; simp at this, ?_⟩
      rcases this.2 with h1 | h1 | h1 | h1
      · exact .inl (bef_path h1)
      · exact .inr (.inl h1)
      · exact .inr (.inr (.inl h1))
      · simp only [List.any_eq_true, Bool.and_eq_true] at h1
        obtain ⟨j, hj, hjq, hjb⟩ := h1
        exact .inr (.inr (.inr ⟨j, hj, by simpa using hjq, bef_path hjb⟩))
    · exact ordOk_pair (s := s) ho.2 rfl h hh
section
variable {P : Program} {C : Caller} {Γ : Ctx}
theorem wp_exists {o : Oper} {a : Act} {w : World} {next : Act → World → Prop} {Q : Exit → Act → World → Prop} (h : o.wp P a w next Q) : (∃ a' w', next a' w') ∨ ∃ e a' w', Q e a' w' := by
  unfold Oper.wp at h
  generalize (execOp a.eval o).run P w = r at h
  cases r with
  | ok n w' =>
    cases n <;> simp only [Oper.upon] at h <;> first | exact .inl ⟨_, _, h⟩ | exact h.elim | skip
    · obtain ⟨e, w2, fr, hR, _⟩ := h []
      cases e with
      | returned v => exact .inl ⟨_, _, hR⟩
      | panicked ch => exact .inr ⟨_, _, _, hR⟩
      | outgrown => obtain ⟨a0, w0, hq⟩ := hR; exact .inr ⟨_, _, _, hq⟩
    · obtain ⟨v, w2, hR, _⟩ := h default []
      exact .inl ⟨_, _, hR⟩
  | halt x w' =>
    cases x <;> simp only [Oper.upon] at h <;> first | exact h.elim | exact .inr ⟨_, _, _, h⟩
theorem wpList_exists {ops : Array Oper} {Q : Exit → Act → World → Prop} : ∀ (l : List Oper) (a : Act) (w : World), wpList P ops Q l a w → ∃ e a' w', Q e a' w'
  | [], a, w, h => ⟨_, _, _, h⟩
  | o :: l, a, w, h => by
    unfold wpList at h
    split at h
    · rcases h with h | ⟨_, a0, w0, h⟩
      · rcases wp_exists h with ⟨a', w', h1⟩ | h1
        · exact wpList_exists l a' w' h1
        · exact h1
      · exact ⟨_, _, _, h⟩
    · exact wpList_exists l _ _ h
def remain (ops : Array Oper) (listed : Array Bool) : List Nat := (List.range ops.size).filter fun i => !listed.getD i true
def DownC (ops : Array Oper) (listed : Array Bool) : Prop := ∀ j o, ops.toList[j]? = some o → listed.getD j false = true → ∀ e, e ∈ o.after.toList → Region.binds .any e = true → listed.getD e.on false = true
theorem path_listed {ops : Array Oper} {listed : Array Bool} (hd : DownC ops listed) {h j : Nat} (hp : Path ops.toList h j) : (∀ o, ops.toList[j]? = some o → ∀ e, e ∈ o.after.toList → Region.binds .any e = true → listed.getD e.on false = true) → listed.getD h false = true := by
  induction hp with
  | step ho he hb => intro hj; exact hj _ ho _ he hb
  | more ho he hb hp ih =>
    intro hj
    have := hj _ ho _ he hb
    exact ih fun o' ho' e' he' hb' => hd _ _ ho' this e' he' hb'
theorem aops_append {G : List Nat} {ops : List Oper} {C : Caller} : ∀ (l1 l2 : List Oper) (sl : List V) (st : List Ob) (K : St), aops P C G ops (l1 ++ l2) sl st K = aops P C G ops l1 sl st fun sl st => aops P C G ops l2 sl st K
  | [], l2, sl, st, K => rfl
  | o :: l1, l2, sl, st, K => by
    rw [List.cons_append, aops_cons, aops_cons]
    congr 1
    funext v st'
    exact aops_append l1 l2 _ _ _
theorem draw_step {w0 : Base} (hC : SoundC P (Cx P C Γ)) {opa : Array Oper} {G : List Nat} {Q : Exit → Act → World → Prop} {Kt : St} {i : Nat} (hisz : i < opa.size) {a : Act} {c : Cfg} {sl : List V} {l1 l2 : List Oper}
    (hr : Rel w0 c) (hs : SlR c sl a.tmps) (hg : GdIn G sl) (hgs : GdS opa.toList sl) (hpairs : ∀ x, x ∈ l1 → x ∈ opa.toList ∧ PairOk P Γ opa.toList x opa[i])
    (h : aops P (Cx P C Γ) G opa.toList (l1 ++ opa[i] :: l2) sl c.st Kt) {next : Act → World → Prop}
    (hn : ∀ sl' c' a', Rel w0 c' → Ext c c' → SlR c' sl' a'.tmps → GdIn G sl' → a'.defers = a.defers → GdS opa.toList sl' → aops P (Cx P C Γ) G opa.toList (l1 ++ l2) sl' c'.st Kt → next a' c'.w) :
    wpOp P opa Q i next a c.w := by
  have himem : opa[i] ∈ opa.toList := by simp
  have howes : detK opa[i].op = true → Owes P C Γ G opa.toList opa[i] sl c.st := by
    intro hdi
    have hb := owes_behind hdi _ _ sl c.st Kt hpairs hgs h
    have hw := aops_sound hC (Q := fun e _ _ => e = .normal ∧ Owes P C Γ G opa.toList opa[i] sl c.st) _ c sl a _ hr hs hg hb fun _ _ _ _ _ _ _ _ ho => ⟨rfl, ho⟩
    obtain ⟨e, a', w', hq⟩ := wpList_exists _ _ _ hw
    exact hq.2
  have hfr := front himem _ _ sl c.st Kt hpairs hgs howes h
  rw [aops_cons] at hfr
  have hR : R P (Cx P C Γ) G opa.toList opa[i] sl c.st fun v st' => GdS opa.toList (putS G opa[i].dst v sl) ∧ aops P (Cx P C Γ) G opa.toList (l1 ++ l2) (putS G opa[i].dst v sl) st' Kt :=
    R_mono (fun v st' g => ⟨gds_put himem hgs g.1, g.2⟩) (R_okv hfr)
  have hstep := astep_sound hC (Q := Q) (k := fun sl' st' => GdS opa.toList sl' ∧ aops P (Cx P C Γ) G opa.toList (l1 ++ l2) sl' st' Kt) (next := next) hr hs hg hR
    (fun sl' c' a' k1 k2 k3 k4 k5 k6 => hn sl' c' a' k1 k2 k3 k4 k5 k6.1 k6.2)
  unfold wpOp
  rw [Array.getElem?_eq_getElem hisz]
  simp only
  split
  · next hw => rw [if_pos hw] at hstep; exact .inl hstep
  · next hw => rw [if_neg hw] at hstep; exact hstep
def blockOf (ops : List Oper) (K p : List Nat) : List Nat :=
  (List.range ops.length).filter fun i => !(K.contains i) && (K.all fun k => !(Nat.testBit ((befG ops []).getD i 0) k) || p.contains k) && (match p.getLast? with
    | some j => Nat.testBit ((befG ops []).getD i 0) j
    | none => true)
def nodeOk (P : Program) (Γ : Ctx) (ops : List Oper) (K p F : List Nat) : Bool :=
  ordOk P Γ ops K p F && (eqL (F.filter fun i => K.contains i) p && ((List.range ops.length).all fun i => K.contains i || (F.contains i || K.any fun k => Nat.testBit ((befG ops []).getD i 0) k && !(p.contains k))))
def tailX (P : Program) (C : Caller) (Γ : Ctx) (G : List Nat) (ops : List Oper) (K : List Nat) : Nat → List Nat → List Nat → St → St
  | 0, _, _, Kc, sl, st => Kc sl st
  | n + 1, p, F, Kc, sl, st => ∀ j, j ∈ elig ops K p → nodeOk P Γ ops K (p ++ [j]) (F ++ j :: blockOf ops K (p ++ [j])) = true ∧ ∃ o, ops[j]? = some o ∧
      aops P C G ops (o :: (blockOf ops K (p ++ [j])).filterMap (ops[·]?)) sl st fun sl st => tailX P C Γ G ops K n (p ++ [j]) (F ++ j :: blockOf ops K (p ++ [j])) Kc sl st
def remL (l : List Nat) (listed : Array Bool) : List Nat := l.filter fun i => !listed.getD i true
theorem ordOk_nodup {ops : List Oper} {K q : List Nat} : ∀ {l : List Nat}, ordOk P Γ ops K q l = true → l.Nodup
  | [], _ => List.nodup_nil
  | x :: l, h => by
    simp only [ordOk, Bool.and_eq_true, List.all_eq_true] at h
    refine List.nodup_cons.2 ⟨fun hx => ?_, ordOk_nodup h.2⟩
    have := (h.1 x hx).1
    simp at this
theorem getD_tf {listed : Array Bool} {i : Nat} (hi : i < listed.size) : listed.getD i true = listed.getD i false := by
  simp [Array.getD_eq_getD_getElem?, hi]
theorem getD_set' {listed : Array Bool} {i j : Nat} (d : Bool) : (listed.setIfInBounds i true).getD j d = if i = j ∧ i < listed.size then true else listed.getD j d := by
  simp only [Array.getD_eq_getD_getElem?, Array.getElem?_setIfInBounds]
  by_cases hij : i = j
  · subst hij
    by_cases hl : i < listed.size
    · simp [hl]
    · simp [hl]
  · simp [hij]
theorem remL_set {l : List Nat} {listed : Array Bool} {i : Nat} (hi : i ∉ l) : remL l (listed.setIfInBounds i true) = remL l listed := by
  unfold remL
  apply List.filter_congr
  intro j hj
  rw [getD_set', if_neg (fun e => hi (by rw [e.1]; exact hj))]
theorem draw_tree {w0 : Base} (hC : SoundC P (Cx P C Γ)) {opa : Array Oper} {G : List Nat} {K : List Nat} (hKn : K.Nodup) (hKs : ∀ k, k ∈ K → k < opa.size) (hedge : edgesOk opa.toList = true) {Q : Exit → Act → World → Prop} {Kc : St} :
    ∀ (fuel : Nat) (listed : Array Bool) (a : Act) (c : Cfg) (sl : List V) (p F : List Nat) (n : Nat), listed.size = opa.size → DownC opa listed → (remain opa listed).length ≤ fuel →
    (∀ k, k ∈ K → (k ∈ p ↔ listed.getD k false = true)) → (K.filter fun k => !(p.contains k)).length = n → nodeOk P Γ opa.toList K p F = true →
    Rel w0 c → SlR c sl a.tmps → GdIn G sl → GdS opa.toList sl → aops P (Cx P C Γ) G opa.toList ((remL F listed).filterMap (opa.toList[·]?)) sl c.st (tailX P (Cx P C Γ) Γ G opa.toList K n p F Kc) →
    (∀ sl' c' a', Rel w0 c' → Ext c c' → SlR c' sl' a'.tmps → GdIn G sl' → a'.defers = a.defers → Kc sl' c'.st → Q .normal a' c'.w) → wpAny P .any opa Q fuel listed a c.w := by
  intro fuel
  have fin : ∀ (listed : Array Bool) (a : Act) (c : Cfg) (sl : List V) (p F : List Nat) (n : Nat), listed.size = opa.size → remain opa listed = [] →
      (∀ k, k ∈ K → (k ∈ p ↔ listed.getD k false = true)) → (K.filter fun k => !(p.contains k)).length = n → Rel w0 c → SlR c sl a.tmps → GdIn G sl →
      aops P (Cx P C Γ) G opa.toList ((remL F listed).filterMap (opa.toList[·]?)) sl c.st (tailX P (Cx P C Γ) Γ G opa.toList K n p F Kc) →
      (∀ sl' c' a', Rel w0 c' → Ext c c' → SlR c' sl' a'.tmps → GdIn G sl' → a'.defers = a.defers → Kc sl' c'.st → Q .normal a' c'.w) → Q .normal a c.w := by
    intro listed a c sl p F n hsz h0 hkp hn hr hs hg h hK
    have hall : ∀ i, i < opa.size → listed.getD i false = true := by
      intro i hi
      cases hq : listed.getD i false with
      | true => rfl
      | false =>
        have : i ∈ remain opa listed := by
          unfold remain
          rw [List.mem_filter]
          exact ⟨by simpa using hi, by rw [getD_tf (by omega), hq]; rfl⟩
        rw [h0] at this; simp at this
    have hrl : remL F listed = [] := by
      unfold remL
      rw [List.filter_eq_nil_iff]
      intro i _
      rcases Nat.lt_or_ge i opa.size with g | g
      · rw [getD_tf (by omega), hall i g]; simp
      · simp [Array.getD_eq_getD_getElem?, show ¬ i < listed.size by omega]
    have hn0 : n = 0 := by
      rw [← hn]
      apply List.length_eq_zero_iff.2
      rw [List.filter_eq_nil_iff]
      intro k hk
      have := (hkp k hk).2 (hall k (hKs k hk))
      simpa using this
    subst hn0
    rw [hrl] at h
    exact hK sl c a hr (Ext.refl c) hs hg rfl h
  induction fuel with
  | zero =>
    intro listed a c sl p F n hsz hd hlen hkp hn hnode hr hs hg hgs h hK
    have h0 : remain opa listed = [] := List.length_eq_zero_iff.1 (by omega)
    refine ⟨?_, fin listed a c sl p F n hsz h0 hkp hn hr hs hg h hK⟩
    rw [List.eq_nil_iff_forall_not_mem]
    intro i hi
    have : i ∈ remain opa listed := by
      unfold Region.ready at hi
      unfold remain
      rw [List.mem_filter] at hi ⊢
      simp only [Bool.and_eq_true] at hi
      exact ⟨hi.1, hi.2.1⟩
    rw [h0] at this
    simp at this
  | succ fuel ih =>
    intro listed a c sl p F n hsz hd hlen hkp hn hnode hr hs hg hgs h hK
    refine ⟨fun hready => ?_, fun i hi => ?_⟩
    ·
      have h0 : remain opa listed = [] := by
        rw [List.eq_nil_iff_forall_not_mem]
        intro i
        induction i using Nat.strongRecOn with
        | _ i ihi =>
          intro hi
          unfold remain at hi
          rw [List.mem_filter] at hi
          have hisz : i < opa.size := by simpa using hi.1
          have : i ∈ Region.ready .any opa listed := by
            unfold Region.ready
            rw [List.mem_filter]
            refine ⟨hi.1, ?_⟩
            simp only [Bool.and_eq_true]
            refine ⟨hi.2, ?_⟩
            rw [Array.getElem?_eq_getElem hisz]
            simp only [Option.map_some, Option.getD_some, Array.all_eq_true']
            intro e he
            rw [Bool.or_eq_true]
            by_cases hb : Region.binds .any e = true
            · right
              have ho : opa.toList[i]? = some opa[i] := by simp [hisz]
              have hlt := edgesOk_edge hedge ho (by simpa using he) hb
              have hn := ihi e.on hlt
              unfold remain at hn
              rw [List.mem_filter] at hn
              have hesz : e.on < listed.size := by omega
              have : listed.getD e.on true = true := by
                cases hq : listed.getD e.on true with
                | true => rfl
                | false => exact absurd ⟨by simp; omega, by rw [hq]; rfl⟩ hn
              simpa [Array.getD_eq_getD_getElem?, hesz] using this
            · left
              simpa using hb
          rw [hready] at this
          simp at this
      exact fin listed a c sl p F n hsz h0 hkp hn hr hs hg h hK
    · unfold Region.ready at hi
      rw [List.mem_filter] at hi
      simp only [Bool.and_eq_true] at hi
      obtain ⟨hir, hil, hia⟩ := hi
      have hisz : i < opa.size := by simpa using hir
      have hilf : listed.getD i false = false := by
        rw [← getD_tf (by omega)]
        simpa using hil
      have ho : opa.toList[i]? = some opa[i] := by simp [hisz]
      have hai : ∀ e, e ∈ opa[i].after.toList → Region.binds .any e = true → listed.getD e.on false = true := by
        intro e he hb
        rw [Array.getElem?_eq_getElem hisz] at hia
        simp only [Option.map_some, Option.getD_some, Array.all_eq_true'] at hia
        have := hia e (by simpa using he)
        rw [hb] at this
        simpa using this
      have hpl : ∀ h, Path opa.toList h i → listed.getD h false = true := fun h hp => path_listed hd hp fun o ho' e he hb => by
        rw [ho] at ho'; cases ho'
        exact hai e he hb
      have hm : i ∈ remain opa listed := by unfold remain; rw [List.mem_filter]; exact ⟨hir, hil⟩
      have hdown : DownC opa (listed.setIfInBounds i true) := by
        intro j o hoj hlj e he hb
        have hmono : ∀ x, listed.getD x false = true → (listed.setIfInBounds i true).getD x false = true := by
          intro x hx
          rw [getD_set']
          split
          · rfl
          · exact hx
        by_cases hji : i = j
        · subst hji
          rw [ho] at hoj; cases hoj
          exact hmono _ (hai e he hb)
        · rw [getD_set', if_neg (fun e => hji e.1)] at hlj
          exact hmono _ (hd j o hoj hlj e he hb)
      have hrem : (remain opa (listed.setIfInBounds i true)).length ≤ fuel := by
        obtain ⟨s, t, hst⟩ := List.append_of_mem hm
        have hpw : (remain opa listed).Pairwise (· < ·) := List.Pairwise.filter _ List.pairwise_lt_range
        have hnd : (remain opa listed).Nodup := hpw.imp fun h => Nat.ne_of_lt h
        have h1 : remain opa (listed.setIfInBounds i true) = (remain opa listed).filter fun j => !(j == i) := by
          unfold remain
          rw [List.filter_filter]
          apply List.filter_congr
          intro j hj
          have hjsz : j < listed.size := by simp at hj; omega
          by_cases hji : j = i
          · subst hji
            simp [Array.getD_eq_getD_getElem?, hjsz]
          · have : ¬ i = j := fun e => hji e.symm
            simp [Array.getD_eq_getD_getElem?, Array.getElem?_setIfInBounds, this, hji]
        rw [h1]
        have h2 : ((remain opa listed).filter fun j => !(j == i)).length < (remain opa listed).length := by
          apply List.length_filter_lt_length_iff_exists.2
          exact ⟨i, hm, by simp⟩
        omega
      have hnode' := hnode
      simp only [nodeOk, Bool.and_eq_true, List.all_eq_true] at hnode'
      obtain ⟨hord, hKF, hcomp⟩ := hnode'
      have hKF := eqL_eq hKF
      have hFn := ordOk_nodup hord
      have unl : ∀ x, (!listed.getD x true) = true → ¬ listed.getD x false = true := by
        intro x hx hx2
        rcases Nat.lt_or_ge x listed.size with g | g
        · rw [getD_tf g, hx2] at hx; cases hx
        · simp [Array.getD_eq_getD_getElem?, show ¬ x < listed.size by omega] at hx2
      have some_of : ∀ {x : Nat}, commB P Γ opa.toList x i = true → ∃ o, opa.toList[x]? = some o := by
        intro x hx
        unfold commB at hx
        split at hx
        · next o' o h1 h2 => exact ⟨_, h1⟩
        · cases hx
      by_cases hiK : i ∈ K
      ·
        have hip : i ∉ p := fun hh => by rw [(hkp i hiK).1 hh] at hilf; cases hilf
        have hiF : i ∉ F := fun hh => hip (by rw [← hKF]; exact List.mem_filter.2 ⟨hh, by simpa using hiK⟩)
        have hel : i ∈ elig opa.toList K p := by
          unfold elig
          rw [List.mem_filter]
          refine ⟨hiK, ?_⟩
          simp only [Bool.and_eq_true, List.all_eq_true, Bool.not_eq_true']
          refine ⟨by simpa using hip, fun k hk => ?_⟩
          rw [Bool.or_eq_true]
          cases hb : Nat.testBit ((befG opa.toList []).getD i 0) k with
          | false => exact .inr rfl
          | true =>
            left
            have := (hkp k hk).2 (hpl k (bef_path hb))
            simpa using this
        obtain ⟨m, rfl⟩ : ∃ m, n = m + 1 := by
          have : 0 < n := by
            rw [← hn]
            exact List.length_pos_of_mem (List.mem_filter.2 ⟨hiK, by simpa using hip⟩)
          exact ⟨n - 1, by omega⟩
        have h1 : nodeOk P Γ opa.toList K (p ++ [i]) (F ++ i :: blockOf opa.toList K (p ++ [i])) = true ∧ aops P (Cx P C Γ) G opa.toList ((remL F listed).filterMap (opa.toList[·]?) ++ opa[i] :: (blockOf opa.toList K (p ++ [i])).filterMap (opa.toList[·]?)) sl c.st
            (tailX P (Cx P C Γ) Γ G opa.toList K m (p ++ [i]) (F ++ i :: blockOf opa.toList K (p ++ [i])) Kc) := by
          have hw := aops_sound hC (Q := fun e _ _ => e = .normal ∧ nodeOk P Γ opa.toList K (p ++ [i]) (F ++ i :: blockOf opa.toList K (p ++ [i])) = true) _ c sl a _ hr hs hg h fun _ _ _ _ _ _ _ _ hk => ⟨rfl, (hk i hel).1⟩
          obtain ⟨e, a', w', hq⟩ := wpList_exists _ _ _ hw
          refine ⟨hq.2, ?_⟩
          rw [aops_append]
          refine aops_mono _ _ _ _ _ (fun sl st hk => ?_) h
          obtain ⟨_, o, ho', hk⟩ := hk i hel
          rw [ho] at ho'; cases ho'
          exact hk
        obtain ⟨hnode2, h1⟩ := h1
        have hord2 : ordOk P Γ opa.toList K (p ++ [i]) (F ++ i :: blockOf opa.toList K (p ++ [i])) = true := by
          simp only [nodeOk, Bool.and_eq_true] at hnode2
          exact hnode2.1
        refine draw_step hC hisz hr hs hg hgs (fun x hx => ?_) h1 fun sl' c' a' k1 k2 k3 k4 k5 k6 k7 => ?_
        · obtain ⟨k, hk, hkx⟩ := List.mem_filterMap.1 hx
          unfold remL at hk
          rw [List.mem_filter] at hk
          refine ⟨List.mem_of_getElem? hkx, ?_⟩
          rcases ordOk_pair hord2 rfl k hk.1 with ⟨_, h2 | h2 | h2 | ⟨j, hj, hjq, h2⟩⟩
          rotate_left 3
          · rcases List.mem_append.1 hjq with hjq | hjq
            · have hlj := (hkp j hj).1 hjq
              exact absurd (path_listed hd h2 fun o ho' e he hb => hd j o ho' hlj e he hb) (unl k hk.2)
            · rw [List.mem_singleton.1 hjq] at h2
              exact absurd (hpl k h2) (unl k hk.2)
          · exact absurd (hpl k h2) (unl k hk.2)
          · exact commB_pair hkx ho h2
          · have hkK : k ∈ K := by simpa using h2.1
            have : k ∈ p := by rw [← hKF]; exact List.mem_filter.2 ⟨hk.1, h2.1⟩
            exact absurd ((hkp k hkK).1 this) (unl k hk.2)
        · refine ih _ a' c' sl' (p ++ [i]) _ m (by simp [hsz]) hdown hrem ?_ ?_ hnode2 k1 k3 k4 k6 ?_ fun sl'' c'' a'' m1 m2 m3 m4 m5 m6 => hK sl'' c'' a'' m1 (k2.trans m2) m3 m4 (m5.trans k5) m6
          · intro k hk
            rw [getD_set', List.mem_append, List.mem_singleton]
            by_cases hik : i = k
            · rw [if_pos ⟨hik, by omega⟩]
              exact ⟨fun _ => rfl, fun _ => .inr hik.symm⟩
            · rw [if_neg (fun e => hik e.1), ← hkp k hk]
              exact ⟨fun e => e.elim id fun e => absurd e.symm hik, .inl⟩
          · have e1 : (K.filter fun k => !((p ++ [i]).contains k)) = (K.filter fun k => !(p.contains k)).filter fun k => !(k == i) := by
              rw [List.filter_filter]
              apply List.filter_congr
              intro k _
              simp only [List.contains_eq_mem, List.mem_append, List.mem_singleton]
              by_cases a1 : k ∈ p <;> by_cases a2 : k = i <;> simp [a1, a2]
            rw [e1]
            have hnd : (K.filter fun k => !(p.contains k)).Nodup := hKn.filter _
            have e2 : ((K.filter fun k => !(p.contains k)).filter fun k => !(k == i)) = (K.filter fun k => !(p.contains k)).erase i := by
              rw [List.Nodup.erase_eq_filter hnd]
              rfl
            rw [e2, List.length_erase_of_mem (List.mem_filter.2 ⟨hiK, by simpa using hip⟩)]
            omega
          · have e1 : remL (F ++ i :: blockOf opa.toList K (p ++ [i])) (listed.setIfInBounds i true) = remL F listed ++ blockOf opa.toList K (p ++ [i]) := by
              unfold remL
              rw [List.filter_append, List.filter_cons]
              have : (listed.setIfInBounds i true).getD i true = true := by rw [getD_set', if_pos ⟨rfl, by omega⟩]
              simp only [this, Bool.not_true, Bool.false_eq_true, if_false]
              congr 1
              · exact remL_set hiF
              · apply List.filter_eq_self.2
                intro b hb
                unfold blockOf at hb
                rw [List.mem_filter] at hb
                have hbs : b < opa.size := by simpa using hb.1
                have hb2 := hb.2
                simp only [List.getLast?_append, List.getLast?_singleton, Option.some_or, Bool.and_eq_true] at hb2
                have hbi : b ≠ i := fun e => by
                  have := hb2.1.1
                  rw [e] at this
                  simp [hiK] at this
                rw [getD_set', if_neg (fun e => hbi e.1.symm)]
                cases hq : listed.getD b true with
                | false => rfl
                | true =>
                  rw [getD_tf (by omega)] at hq
                  have hpi := bef_path hb2.2
                  have := path_listed hd hpi fun o ho' e he hbd => hd b o ho' hq e he hbd
                  rw [hilf] at this
                  cases this
            rw [e1, List.filterMap_append]
            exact k7
      ·
        have hiF : i ∈ F := by
          have := hcomp i (by simpa using hisz)
          simp only [Bool.or_eq_true, List.any_eq_true, Bool.and_eq_true] at this
          rcases this with h1 | h1 | ⟨k, hk, h1, h2⟩
          · exact absurd (by simpa using h1) hiK
          · simpa using h1
          · have := (hkp k hk).2 (hpl k (bef_path h1))
            simp [this] at h2
        obtain ⟨s, t, hst⟩ := List.append_of_mem hiF
        have hrl : remL F listed = remL s listed ++ i :: remL t listed := by
          rw [hst]
          unfold remL
          rw [List.filter_append, List.filter_cons, if_pos hil]
        rw [hrl, List.filterMap_append, List.filterMap_cons, ho] at h
        rw [hst] at hFn
        have hns : i ∉ s := fun hh => (List.nodup_append.1 hFn).2.2 i hh i (by simp) rfl
        have hnt : i ∉ t := (List.nodup_cons.1 (List.nodup_append.1 hFn).2.1).1
        refine draw_step hC hisz hr hs hg hgs (fun x hx => ?_) h fun sl' c' a' k1 k2 k3 k4 k5 k6 k7 => ?_
        · obtain ⟨k, hk, hkx⟩ := List.mem_filterMap.1 hx
          unfold remL at hk
          rw [List.mem_filter] at hk
          refine ⟨List.mem_of_getElem? hkx, ?_⟩
          rcases ordOk_pair hord hst k hk.1 with ⟨_, h2 | h2 | h2 | ⟨j, hj, hjq, h2⟩⟩
          · exact absurd (hpl k h2) (unl k hk.2)
          · exact commB_pair hkx ho h2
          · exact absurd (by simpa using h2.2) hiK
          · have hlj := (hkp j hj).1 hjq
            exact absurd (path_listed hd h2 fun o ho' e he hb => hd j o ho' hlj e he hb) (unl k hk.2)
        · refine ih _ a' c' sl' p F n (by simp [hsz]) hdown hrem ?_ hn hnode k1 k3 k4 k6 ?_ fun sl'' c'' a'' m1 m2 m3 m4 m5 m6 => hK sl'' c'' a'' m1 (k2.trans m2) m3 m4 (m5.trans k5) m6
          · intro k hk
            rw [getD_set', if_neg (fun e => hiK (by rw [e.1]; exact hk))]
            exact hkp k hk
          · have e1 : remL F (listed.setIfInBounds i true) = remL s listed ++ remL t listed := by
              rw [hst]
              have : remL (s ++ i :: t) (listed.setIfInBounds i true) = remL s (listed.setIfInBounds i true) ++ remL t (listed.setIfInBounds i true) := by
                unfold remL
                rw [List.filter_append, List.filter_cons]
                have : (listed.setIfInBounds i true).getD i true = true := by rw [getD_set', if_pos ⟨rfl, by omega⟩]
                simp only [this, Bool.not_true, Bool.false_eq_true, if_false]
              rw [this, remL_set hns, remL_set hnt]
            rw [e1, List.filterMap_append]
            exact k7
def C00 (P : Program) (Γ : Ctx) (Δ : CtxO) : Caller := mkC P Γ Δ (fun _ _ _ _ _ => False) (fun _ => .leaf) 0
theorem C00_ok {Γ : Ctx} (h : SoundG P Γ) {Δ : CtxO} (hΔ : SoundGO P Δ) : SoundC P (C00 P Γ Δ) :=
  mkC_sound h hΔ (fun _ _ _ _ _ _ _ _ _ _ _ _ _ hf _ => hf.elim) (fun _ _ _ _ _ _ _ => annOk_leaf _) 0
def allL (f : Nat → Prop) : List Nat → Prop
  | [] => True
  | [i] => f i
  | i :: r => f i ∧ allL f r
theorem allL_out {f : Nat → Prop} : ∀ {l : List Nat}, allL f l → ∀ i, i ∈ l → f i
  | [], _, i, hi => by simp at hi
  | [j], h, i, hi => by simp at hi; subst hi; exact h
  | j :: k :: r, h, i, hi => by
    rcases List.mem_cons.1 hi with rfl | hi
    · exact h.1
    · exact allL_out (l := k :: r) h.2 i hi
def tailD (P : Program) (C : Caller) (Γ : Ctx) (G : List Nat) (ops : List Oper) (K : List Nat) : Nat → List Nat → List Nat → St → Kd → St
  | 0, _, _, Kc, _, sl, st => Kc sl st
  | n + 1, p, F, Kc, kn, sl, st => allL (fun j => bif nodeOk P Γ ops K (p ++ [j]) (F ++ j :: blockOf ops K (p ++ [j])) then (match ops[j]? with
      | some o => aopsD P C G ops (o :: (blockOf ops K (p ++ [j])).filterMap (ops[·]?)) kn sl st fun kn sl st => tailD P C Γ G ops K n (p ++ [j]) (F ++ j :: blockOf ops K (p ++ [j])) Kc kn sl st
      | none => False) else False) (elig ops K p)
theorem tailD_tailX {G : List Nat} {ops : List Oper} {K : List Nat} {Kc : St} : ∀ (n : Nat) (p F : List Nat) (kn : Kd) (sl : List V) (st : List Ob), GdIn G sl → KdR kn sl → tailD P (Cx0 P C Γ) Γ G ops K n p F Kc kn sl st → tailX P (Cx P C Γ) Γ G ops K n p F (fun sl st => GdIn G sl ∧ Kc sl st) sl st
  | 0, _, _, kn, sl, st, hg, hk, h => ⟨hg, h⟩
  | n + 1, p, F, kn, sl, st, hg, hk, h => by
    intro j hj
    have hj := allL_out h j hj
    cases hn : nodeOk P Γ ops K (p ++ [j]) (F ++ j :: blockOf ops K (p ++ [j])) with
    | false => rw [hn] at hj; exact hj.elim
    | true =>
      rw [hn] at hj
      simp only [cond_true] at hj
      split at hj
      · next o ho =>
        exact ⟨rfl, o, ho, aopsD_aops _ kn _ _ _ _ (fun kn sl st hg hk h => tailD_tailX n _ _ kn sl st hg hk h) hg hk hj⟩
      · exact hj.elim
def drawD (P : Program) (Γ : Ctx) (Δ : CtxO) (ops : List Oper) (sl : List V) (st : List Ob) (K : St) : Prop :=
  if ((P.follows .mixedOrders || !Region.departs ops.toArray) && (edgesOk ops && nodeOk P Γ ops (confl P Γ ops) [] (blockOf ops (confl P Γ ops) []))) = true then
    aopsD P (Cx0 P (C00 P Γ Δ) Γ) (guards ops ops) ops ((blockOf ops (confl P Γ ops) []).filterMap (ops[·]?)) [] sl st
      (tailD P (Cx0 P (C00 P Γ Δ) Γ) Γ (guards ops ops) ops (confl P Γ ops) (confl P Γ ops).length [] (blockOf ops (confl P Γ ops) []) fun sl' st' => K (clr (guards ops ops) sl') st')
  else False
theorem drawD_sound (hG : SoundG P Γ) {Δ : CtxO} (hΔ : SoundGO P Δ) : SoundD P (drawD P Γ Δ) := by
  intro w0 id ops c sl a K Q hr hs hg h hK
  unfold drawD at h
  split at h
  · next hok =>
    simp only [Bool.and_eq_true, Array.toArray_toList] at hok
    obtain ⟨hok1, hok2, hok3⟩ := hok
    refine wp_region_draw fun t => ?_
    have hsch : Region.schedule (P.follows .mixedOrders) ops t = Region.linearise .any ops t := by
      unfold Region.schedule
      rw [if_pos hok1]
    rw [hsch]
    obtain ⟨hr1, hx1⟩ := drew_rel hr
    refine wpAny_sound ops.size t _ a _ ?_
    have hno : ∀ k d, (Array.replicate ops.size false).getD k d = true → d = true ∧ ops.size ≤ k := by
      intro k d hl
      rw [Array.getD_eq_getD_getElem?, Array.getElem?_replicate] at hl
      split at hl
      · simp at hl
      · simp at hl; exact ⟨hl, by omega⟩
    refine draw_tree (w0 := w0) (C := C00 P Γ Δ) (Γ := Γ) (K := confl P Γ ops.toList) (Cx_sound (C00_ok hG hΔ) hG) ?_ ?_ hok2 (G := guards ops.toList ops.toList)
      (Kc := fun sl st => GdIn (guards ops.toList ops.toList) sl ∧ K (clr (guards ops.toList ops.toList) sl) st) ops.size _ a { c with w := c.w.drew } sl [] (blockOf ops.toList (confl P Γ ops.toList) []) (confl P Γ ops.toList).length (by simp) ?_ ?_ ?_ ?_ hok3 hr1 (SlR.ext hx1 hs) hg.mono ?_ ?_ ?_
    · exact (List.pairwise_lt_range.imp fun h => Nat.ne_of_lt h).filter _
    · intro k hk
      unfold confl at hk
      rw [List.mem_filter] at hk
      simpa using hk.1
    · intro j o _ hl
      have := (hno j false hl).1
      cases this
    · exact Nat.le_trans (List.length_filter_le _ _) (by simp)
    · intro k _
      constructor
      · intro hh; simp at hh
      · intro hh
        have := (hno k false hh).1
        cases this
    · rw [List.filter_eq_self.2 fun k _ => by simp]
    · intro t' g w v e
      exact absurd (hg t' g w v e) (by simp)
    · have hall : remL (blockOf ops.toList (confl P Γ ops.toList) []) (Array.replicate ops.size false) = blockOf ops.toList (confl P Γ ops.toList) [] := by
        unfold remL
        apply List.filter_eq_self.2
        intro b hb
        unfold blockOf at hb
        rw [List.mem_filter] at hb
        have hbs : b < ops.size := by simpa using hb.1
        cases hq : (Array.replicate ops.size false).getD b true with
        | false => rfl
        | true => have := (hno b true hq).2; omega
      rw [hall]
      exact aopsD_aops _ [] _ _ _ _ (fun kn sl st hg hk h => tailD_tailX _ _ _ kn sl st hg hk h) hg.mono (fun p hp => by simp at hp) h
    · intro sl' c' a' h1 h2 h3 h4 h5 h6
      obtain ⟨g1, g2⟩ := clr_rel h3 h4
      exact hK _ c' a' h1 (hx1.trans h2) g1 g2 h5 h6.2
  · exact h.elim
end
end Eng
end Go.Proofs.YtkpplfghhciacaaDoor
set_option linter.unusedVariables false
set_option linter.unusedSimpArgs false
namespace Go.Proofs.YtkpplfghhciacaaDoor
namespace Eng
open Go.RowKit
def sub : List Bool → Code → Code
  | [], c => c
  | b :: p, .seq x y => sub p (bif b then y else x)
  | b :: p, .cond _ x y => sub p (bif b then y else x)
  | _ :: p, .block _ b => sub p b
  | _ :: p, .loop b => sub p b
  | _, c => c
def codeOf (fn : Func) : Code := match fn.body with
  | some c => c
  | none => .skip
theorem annOf {P : Program} {C : Caller} {D : List Oper → List V → List Ob → St → Prop} {fn : Func} {ann : Ann} {N : Nat} (h : AnnOk P C D N ann (codeOf fn)) : ∀ code, fn.body = some code → AnnOk P C D N ann code := by
  intro code hc
  have : codeOf fn = code := by unfold codeOf; rw [hc]
  rw [← this]
  exact h
def ctx0 : Ctx := fun _ => none
def ctxC (Γ : Ctx) (f : FuncId) (s : SemF) : Ctx := fun g => if g = f then some s else Γ g
theorem ctx0_ok {P : Program} : SoundG P ctx0 := fun _ _ h => by cases h
theorem ctxC_ok {P : Program} {Γ : Ctx} {f : FuncId} {s : SemF} (h : SoundG P Γ) (hs : SoundFn P f s) : SoundG P (ctxC Γ f s) := by
  intro g sem hg
  unfold ctxC at hg
  split at hg
  · next e => cases hg; rw [e]; exact hs
  · exact h g sem hg
def ctxO0 : CtxO := fun _ => none
def ctxD (Δ : CtxO) (f : FuncId) (rs : List Rs) (s : SemO) : CtxO := fun g => if g = f then some (rs, s) else Δ g
theorem ctxO0_ok {P : Program} : SoundGO P ctxO0 := fun _ _ h => by cases h
theorem ctxD_ok {P : Program} {Δ : CtxO} {f : FuncId} {rs : List Rs} {s : SemO} (h : SoundGO P Δ) (hs : SoundO P f s) : SoundGO P (ctxD Δ f rs s) := by
  intro g x hg
  unfold ctxD at hg
  split at hg
  · next e => cases hg; rw [e]; exact hs
  · exact h g x hg
def CC (P : Program) (Γ : Ctx) (Δ : CtxO) : Caller := mkC P Γ Δ (fun _ => drawD P Γ Δ) (fun _ => .leaf) 0
theorem CC_ok {P : Program} {Γ : Ctx} (h : SoundG P Γ) {Δ : CtxO} (hΔ : SoundGO P Δ) : SoundC P (CC P Γ Δ) := mkC_sound h hΔ (fun _ _ => drawD_sound h hΔ) (fun _ _ _ _ _ _ _ => annOk_leaf _) 0
def run (P : Program) (Γ : Ctx) (Δ : CtxO) (ann : Ann) (rs : Rs) (fn : Func) : SemF := runF P (CC P Γ Δ) (drawD P Γ Δ) ann rs fn
theorem run_ok {P : Program} {Γ : Ctx} (h : SoundG P Γ) {Δ : CtxO} (hΔ : SoundGO P Δ) {f : FuncId} {fn : Func} (hf : P.funcs[f]? = some fn) {ann : Ann} {rs : Rs} (hk : AnnOk P (CC P Γ Δ) (drawD P Γ Δ) 0 ann (codeOf fn)) : SoundFn P f (run P Γ Δ ann rs fn) :=
  runF_sound (CC_ok h hΔ) (drawD_sound h hΔ) hf ann rs (annOf hk)
def runH (P : Program) (Γ : Ctx) (Δ : CtxO) (ann : Ann) (rs : Rs) (flds : List (Nat × Nat × Rs)) (fn : Func) (pl : Bool) (k : Nat) : SemO := runO P (CC P Γ Δ) (drawD P Γ Δ) ann rs flds fn pl k
theorem runH_ok {P : Program} {Γ : Ctx} (h : SoundG P Γ) {Δ : CtxO} (hΔ : SoundGO P Δ) {f : FuncId} {fn : Func} (hf : P.funcs[f]? = some fn) {ann : Ann} {rs : Rs} {flds : List (Nat × Nat × Rs)} {pl : Bool} {k N : Nat} (hN : N = bif pl then k + 1 else k) (hk : AnnOk P (CC P Γ Δ) (drawD P Γ Δ) N ann (codeOf fn)) : SoundO P f (runH P Γ Δ ann rs flds fn pl k) :=
  runO_sound (CC_ok h hΔ) (drawD_sound h hΔ) hf ann rs flds pl k N hN (annOf hk)
abbrev i64 (n : Int) : Int := IntKind.i64.wrap n
end Eng
end Go.Proofs.YtkpplfghhciacaaDoor
set_option linter.unusedVariables false
set_option linter.unusedSimpArgs false
namespace Go.Proofs.YtkpplfghhciacaaDoor
namespace Eng
open Go.RowKit
inductive Sh where
  | any
  | int (k : IntKind)
  | bool
  | str
  | nil
  | ro (t : Ty)
  | rc (l : List Sh) (j : Nat)
  | cl (r i : Nat)
  | el (r j : Nat)
  | vec (r : Nat)
  | vw (r : Nat)
  | agg (l : List Sh)
  | tup (l : List Sh)
  | fn (f : Nat) (a b : List Sh)
  | hd
  | pt
def gI : V → Int
  | .x (.int _ n) => n
  | _ => 0
def gB : V → Bool
  | .x (.bool b) => b
  | _ => false
def gS : V → ByteArray
  | .x (.string s) => s
  | _ => ByteArray.empty
def gR (t : Ty) : V → List t.den
  | .ro τ xs => if h : Ty.eqb τ t = true then Ty.eqb_eq h ▸ xs else []
  | _ => []
def gE : V → Nat
  | .el _ i _ => i
  | _ => 0
def gVl : V → Nat
  | .vw _ l _ => l
  | _ => 0
def gVn : V → Nat
  | .vw _ _ n => n
  | _ => 0
def gC : V → List V
  | .agg cs => cs
  | .tup cs => cs
  | .rc cs _ => cs
  | _ => []
def gFa : V → List V
  | .fn _ a _ => a
  | _ => []
def gFc : V → List V
  | .fn _ _ b => b
  | _ => []
def gH : V → Hd
  | .hd h => h
  | _ => Hd.nil
def gPa : V → Option Addr
  | .pt a _ => a
  | _ => none
def gPi : V → Nat
  | .pt _ i => i
  | _ => 0
def eqK (k k' : IntKind) : Bool := if k = k' then true else false
mutual
def fitV : Sh → V → Bool
  | .any, v => (match v with | .any => true | _ => false)
  | .int k, v => (match v with | .x (.int k' _) => eqK k' k | _ => false)
  | .bool, v => (match v with | .x (.bool _) => true | _ => false)
  | .str, v => (match v with | .x (.string _) => true | _ => false)
  | .nil, v => (match v with | .x (.slice none 0 0) => true | _ => false)
  | .ro t, v => (match v with | .ro τ _ => Ty.eqb τ t | _ => false)
  | .rc l j, v => (match v with | .rc cs j' => Nat.beq j' j && fitL l cs | _ => false)
  | .cl r i, v => (match v with | .cl r' i' => Nat.beq r' r && Nat.beq i' i | _ => false)
  | .el r j, v => (match v with | .el r' _ j' => Nat.beq r' r && Nat.beq j' j | _ => false)
  | .vec r, v => (match v with | .vec r' => Nat.beq r' r | _ => false)
  | .vw r, v => (match v with | .vw r' _ _ => Nat.beq r' r | _ => false)
  | .agg l, v => (match v with | .agg cs => fitL l cs | _ => false)
  | .tup l, v => (match v with | .tup cs => fitL l cs | _ => false)
  | .fn f a b, v => (match v with | .fn (.func f') x y => Nat.beq f' f && (fitL a x && fitL b y) | _ => false)
  | .hd, v => (match v with | .hd _ => true | _ => false)
  | .pt, v => (match v with | .pt _ _ => true | _ => false)
def fitL : List Sh → List V → Bool
  | [], l => (match l with | [] => true | _ => false)
  | s :: r, l => (match l with | v :: vs => fitV s v && fitL r vs | [] => false)
end
mutual
def mkV : Sh → V → V
  | .any, _ => .any
  | .int k, v => .x (.int k (gI v))
  | .bool, v => .x (.bool (gB v))
  | .str, v => .x (.string (gS v))
  | .nil, _ => .x (.slice none 0 0)
  | .ro t, v => .ro t (gR t v)
  | .rc l j, v => .rc (mkL l 0 (gC v)) j
  | .cl r i, _ => .cl r i
  | .el r j, v => .el r (gE v) j
  | .vec r, _ => .vec r
  | .vw r, v => .vw r (gVl v) (gVn v)
  | .agg l, v => .agg (mkL l 0 (gC v))
  | .tup l, v => .tup (mkL l 0 (gC v))
  | .fn f a b, v => .fn (.func f) (mkL a 0 (gFa v)) (mkL b 0 (gFc v))
  | .hd, v => .hd (gH v)
  | .pt, v => .pt (gPa v) (gPi v)
def mkL : List Sh → Nat → List V → List V
  | [], _, _ => []
  | s :: r, i, l => mkV s (l.getD i .any) :: mkL r (i + 1) l
end
theorem mkL_cons : ∀ (ss : List Sh) (i : Nat) (v : V) (l : List V), mkL ss (i + 1) (v :: l) = mkL ss i l
  | [], _, _, _ => by simp only [mkL]
  | s :: r, i, v, l => by
    simp only [mkL, List.getD_cons_succ]
    rw [mkL_cons r (i + 1) v l]
mutual
theorem fitV_eq : ∀ (s : Sh) (v : V), fitV s v = true → v = mkV s v
  | .any, v, h => by cases v <;> simp [fitV] at h; simp only [mkV]
  | .int k, v, h => by
    simp only [fitV] at h
    split at h
    · next k' n =>
      unfold eqK at h
      split at h
      · next e => subst e; simp only [mkV, gI]
      · cases h
    · cases h
  | .bool, v, h => by
    simp only [fitV] at h
    split at h
    · simp only [mkV, gB]
    · cases h
  | .str, v, h => by
    simp only [fitV] at h
    split at h
    · simp only [mkV, gS]
    · cases h
  | .nil, v, h => by
    simp only [fitV] at h
    split at h
    · simp only [mkV]
    · cases h
  | .ro t, v, h => by
    simp only [fitV] at h
    split at h
    · next τ xs =>
      have e := Ty.eqb_eq h
      subst e
      simp only [mkV, gR, h, dif_pos]
    · cases h
  | .rc l j, v, h => by
    simp only [fitV] at h
    split at h
    · next cs j' =>
      simp only [Bool.and_eq_true, Nat.beq_eq] at h
      simp only [mkV, gC]
      rw [← fitL_eq l cs h.2, h.1]
    · cases h
  | .cl r i, v, h => by
    simp only [fitV] at h
    split at h
    · simp only [Bool.and_eq_true, Nat.beq_eq] at h
      simp only [mkV, h.1, h.2]
    · cases h
  | .el r j, v, h => by
    simp only [fitV] at h
    split at h
    · simp only [Bool.and_eq_true, Nat.beq_eq] at h
      simp only [mkV, gE, h.1, h.2]
    · cases h
  | .vec r, v, h => by
    simp only [fitV] at h
    split at h
    · simp only [Nat.beq_eq] at h
      simp only [mkV, h]
    · cases h
  | .vw r, v, h => by
    simp only [fitV] at h
    split at h
    · simp only [Nat.beq_eq] at h
      simp only [mkV, gVl, gVn, h]
    · cases h
  | .agg l, v, h => by
    simp only [fitV] at h
    split at h
    · next cs => simp only [mkV, gC]; rw [← fitL_eq l cs h]
    · cases h
  | .tup l, v, h => by
    simp only [fitV] at h
    split at h
    · next cs => simp only [mkV, gC]; rw [← fitL_eq l cs h]
    · cases h
  | .fn f a b, v, h => by
    simp only [fitV] at h
    split at h
    · next f' x y =>
      simp only [Bool.and_eq_true, Nat.beq_eq] at h
      simp only [mkV, gFa, gFc]
      rw [← fitL_eq a x h.2.1, ← fitL_eq b y h.2.2, h.1]
    · cases h
  | .hd, v, h => by
    simp only [fitV] at h
    split at h
    · simp only [mkV, gH]
    · cases h
  | .pt, v, h => by
    simp only [fitV] at h
    split at h
    · simp only [mkV, gPa, gPi]
    · cases h
theorem fitL_eq : ∀ (ss : List Sh) (l : List V), fitL ss l = true → l = mkL ss 0 l
  | [], l, h => by
    simp only [fitL] at h
    split at h
    · simp only [mkL]
    · cases h
  | s :: r, l, h => by
    simp only [fitL] at h
    split at h
    · next v vs =>
      simp only [Bool.and_eq_true] at h
      simp only [mkL, List.getD_cons_zero]
      rw [mkL_cons r 0 v vs, ← fitV_eq s v h.1, ← fitL_eq r vs h.2]
    · cases h
end
inductive OSh where
  | dead
  | cells (l : List Sh)
  | vec (t : Ty) (z : Bool)
  | pool
def oC : Ob → List V
  | .cells cs => cs
  | _ => []
def cI (st : List Ob) (i j : Nat) : Int := gI ((oC (st.getD i .dead)).getD j .any)
abbrev V.xi (n : Int) : V := .x (.int .i64 n)
def oF : Ob → Nat
  | .vec _ f _ => f
  | _ => 0
def oX (t : Ty) : Ob → List t.den
  | .vec τ _ xs => if h : Ty.eqb τ t = true then Ty.eqb_eq h ▸ xs else []
  | _ => []
def oM : Ob → Pool
  | .pool m => m
  | _ => []
def fitO : OSh → Ob → Bool
  | .dead, o => (match o with | .dead => true | _ => false)
  | .cells l, o => (match o with | .cells cs => fitL l cs | _ => false)
  | .vec t z, o => (match o with | .vec τ f _ => Ty.eqb τ t && (!z || Nat.beq f 0) | _ => false)
  | .pool, o => (match o with | .pool _ => true | _ => false)
def fitOs : List OSh → List Ob → Bool
  | [], l => (match l with | [] => true | _ => false)
  | s :: r, l => (match l with | v :: vs => fitO s v && fitOs r vs | [] => false)
def mkO : OSh → Ob → Ob
  | .dead, _ => .dead
  | .cells l, o => .cells (mkL l 0 (oC o))
  | .vec t z, o => .vec t (bif z then 0 else oF o) (oX t o)
  | .pool, o => .pool (oM o)
def mkOs : List OSh → Nat → List Ob → List Ob
  | [], _, _ => []
  | s :: r, i, l => mkO s (l.getD i .dead) :: mkOs r (i + 1) l
theorem mkOs_cons : ∀ (ss : List OSh) (i : Nat) (v : Ob) (l : List Ob), mkOs ss (i + 1) (v :: l) = mkOs ss i l
  | [], _, _, _ => by simp only [mkOs]
  | s :: r, i, v, l => by
    simp only [mkOs, List.getD_cons_succ]
    rw [mkOs_cons r (i + 1) v l]
theorem fitO_eq (s : OSh) (o : Ob) (h : fitO s o = true) : o = mkO s o := by
  cases s with
  | dead => cases o <;> simp [fitO] at h; simp only [mkO]
  | cells l =>
    simp only [fitO] at h
    split at h
    · next cs => simp only [mkO, oC]; rw [← fitL_eq l cs h]
    · cases h
  | vec t z =>
    simp only [fitO] at h
    split at h
    · next τ f xs =>
      simp only [Bool.and_eq_true] at h
      have e := Ty.eqb_eq h.1
      subst e
      simp only [mkO, oX, h.1, dif_pos]
      cases z with
      | false => rfl
      | true =>
        have hf : f = 0 := by simpa using h.2
        subst hf
        rfl
    · cases h
  | pool =>
    simp only [fitO] at h
    split at h
    · simp only [mkO, oM]
    · cases h
theorem fitOs_eq : ∀ (ss : List OSh) (l : List Ob), fitOs ss l = true → l = mkOs ss 0 l
  | [], l, h => by
    simp only [fitOs] at h
    split at h
    · simp only [mkOs]
    · cases h
  | s :: r, l, h => by
    simp only [fitOs] at h
    split at h
    · next v vs =>
      simp only [Bool.and_eq_true] at h
      simp only [mkOs, List.getD_cons_zero]
      rw [mkOs_cons r 0 v vs, ← fitO_eq s v h.1, ← fitOs_eq r vs h.2]
    · cases h
theorem mkOs_len : ∀ (ss : List OSh) (i : Nat) (l : List Ob), (mkOs ss i l).length = ss.length
  | [], _, _ => rfl
  | s :: r, i, l => by simp [mkOs, mkOs_len r]
def fitF (ss : List Sh) (os : List OSh) (vs : List V) (st : List Ob) (p : Prop) : Prop := bif fitL ss vs && fitOs os st then p else False
theorem fitF_out {ss : List Sh} {os : List OSh} {vs : List V} {st : List Ob} {p : Prop} (h : fitF ss os vs st p) : vs = mkL ss 0 vs ∧ st = mkOs os 0 st ∧ p := by
  unfold fitF at h
  cases h1 : fitL ss vs <;> cases h2 : fitOs os st <;> rw [h1, h2] at h <;> first | exact h.elim | skip
  exact ⟨fitL_eq _ _ h1, fitOs_eq _ _ h2, h⟩
theorem exMap {p q : Nat → Prop} (f : ∀ n, p n → q n) (h : ∃ n, p n) : ∃ n, q n := h.elim fun n hn => ⟨n, f n hn⟩
structure Imp (p q : Prop) : Prop where
  h : p → q
theorem Imp.of {p q b : Prop} (e : q = b) (h : p → b) : Imp p q := ⟨fun x => e ▸ h x⟩
theorem lift_ok {P : Program} {C : Caller} {D : List Oper → List V → List Ob → St → Prop} {d : LoopD} {len : Nat} {b : Code} {an : Ann} {ss : List Sh} {os : List OSh} {G : List V → List Ob → (Ex → St) → Prop} (hr : rising 0 d.keep = true) {N : Nat} (hrb : N ≤ d.rbase) (hk : AnnOk P C D N an b)
    (h : ∀ vs st K, G vs st K → ∃ n, iterL (stepL (exec P C D an b) d.base d K) n (bld d.keep (mkL ss 0 vs) 0 len) (mkOs os 0 st)) :
    AnnOk P C D N (.lift d len fun vs st K => fitF ss os vs st (G vs st K)) (.loop b) := by
  refine ⟨hrb, hr, an, hk, fun vs st K hf => ?_⟩
  obtain ⟨e1, e2, hn⟩ := fitF_out hf
  rw [e1, e2]
  exact h vs st K hn
theorem cut_ok {P : Program} {C : Caller} {D : List Oper → List V → List Ob → St → Prop} {d : CutD} {len : Nat} {x y : Code} {ax ay : Ann} {ss : List Sh} {os : List OSh} {G : List V → List Ob → (Ex → St) → Prop} (hr : rising 0 d.keep = true) {N : Nat} (hx : AnnOk P C D N ax x) (hb : N ≤ d.base) (hrb : N ≤ d.rbase) (hy : AnnOk P C D N ay y)
    (h : ∀ vs st K, Imp (G vs st K) (exec P C D ay y (bld d.keep (mkL ss 0 vs) 0 len) (mkOs os 0 st) (cutK d K))) :
    AnnOk P C D N (.cut ax d len fun vs st K => fitF ss os vs st (G vs st K)) (.seq x y) := by
  refine ⟨hx, hb, hrb, hr, ay, hy, fun vs st K hf => ?_⟩
  obtain ⟨e1, e2, hn⟩ := fitF_out hf
  rw [e1, e2]
  exact (h vs st K).h hn
mutual
def nzV : Sh → V → V
  | .ro t, v => (match v with | .x (.slice none 0 0) => .ro t [] | _ => v)
  | .agg l, v => (match v with | .agg cs => .agg (nzL l cs) | _ => v)
  | .rc l _, v => (match v with | .rc cs j => .rc (nzL l cs) j | _ => v)
  | _, v => v
def nzL : List Sh → List V → List V
  | [], l => l
  | s :: r, l => (match l with | v :: vs => nzV s v :: nzL r vs | [] => [])
end
mutual
theorem nzV_rel {c : Cfg} : ∀ (s : Sh) (v : V) (u : Value), RelV c v u → RelV c (nzV s v) u
  | .ro t, v, u, h => by
    simp only [nzV]
    split
    · simp only [RelV] at h ⊢
      subst h
      simp only [RoV]
      exact .inl ⟨rfl, rfl⟩
    · exact h
  | .agg l, v, u, h => by
    simp only [nzV]
    split
    · next cs =>
      simp only [RelV] at h ⊢
      obtain ⟨us, e, h1⟩ := h
      exact ⟨us, e, nzL_rel l cs _ h1⟩
    · exact h
  | .rc l j, v, u, h => by
    simp only [nzV]
    split
    · next cs j' =>
      simp only [RelV] at h ⊢
      obtain ⟨b, o, e, h1⟩ := h
      obtain ⟨us, g1, g2⟩ := RelC.list h1
      exact ⟨b, o, e, RelC.mk (nzL_rel l cs us g1) g2⟩
    · exact h
  | .any, v, u, h | .int _, v, u, h | .bool, v, u, h | .str, v, u, h | .nil, v, u, h | .cl _ _, v, u, h | .el _ _, v, u, h | .vec _, v, u, h | .vw _, v, u, h | .tup _, v, u, h | .fn _ _ _, v, u, h | .hd, v, u, h | .pt, v, u, h => by simpa only [nzV] using h
theorem nzL_rel {c : Cfg} : ∀ (ss : List Sh) (l : List V) (us : List Value), RelVs c l us → RelVs c (nzL ss l) us
  | [], l, us, h => by simpa only [nzL] using h
  | s :: r, l, us, h => by
    simp only [nzL]
    split
    · next v vs =>
      simp only [RelVs] at h ⊢
      obtain ⟨u, us', e, h1, h2⟩ := h
      exact ⟨u, us', e, nzV_rel s v u h1, nzL_rel r vs us' h2⟩
    · exact h
end
def argF (ss : List Sh) (args : List V) (k : List V → Prop) : Prop := bif fitL ss (nzL ss args) then k (nzL ss args) else False
theorem fn_ok {P : Program} {f : FuncId} {sem : SemF} {ss : List Sh} {G : List V → (V → List Ob → Prop) → Prop} (h : SoundFn P f sem) (he : ∀ args K, Imp (G args K) (sem (mkL ss 0 args) K)) : SoundFn P f (fun args K => argF ss args fun a => G a K) := by
  intro w A args us K hA ha hs
  unfold argF at hs
  cases h1 : fitL ss (nzL ss args) with
  | false => rw [h1] at hs; exact hs.elim
  | true =>
    rw [h1] at hs
    have e := fitL_eq _ _ h1
    have hr := nzL_rel ss args _ ha
    rw [e] at hr
    exact h w A _ us K hA hr ((he _ K).h hs)
theorem fn_none {P : Program} {f : FuncId} {ss : List Sh} {G : List V → (V → List Ob → Prop) → Prop} (h : ∀ vs K, ¬ G vs K) : SoundFn P f (fun args K => argF ss args fun a => G a K) := by
  intro w A args us K hA ha hs
  unfold argF at hs
  cases h1 : fitL ss (nzL ss args) with
  | false => rw [h1] at hs; exact hs.elim
  | true => rw [h1] at hs; exact (h _ _ hs).elim
theorem fn_ex {P : Program} {f : FuncId} {ss : List Sh} {GR : Nat → List V → (V → List Ob → Prop) → Prop} {G : List V → (V → List Ob → Prop) → Prop} (h : ∀ fu, SoundFn P f (fun args K => argF ss args fun a => GR fu a K)) (he : ∀ vs K, G vs K → ∃ fu, GR fu vs K) :
    SoundFn P f (fun args K => argF ss args fun a => G a K) := by
  intro w A args us K hA ha hs
  unfold argF at hs
  cases h1 : fitL ss (nzL ss args) with
  | false => rw [h1] at hs; exact hs.elim
  | true =>
    rw [h1] at hs
    obtain ⟨fu, hg⟩ := he _ _ hs
    exact h fu w A args us K hA ha (by show argF ss args _; unfold argF; rw [h1]; exact hg)
def ctxA (Γ : Ctx) (f : FuncId) (ss : List Sh) (G : List V → (V → List Ob → Prop) → Prop) : Ctx := fun g => if g = f then some fun args K => bif fitL ss (nzL ss args) then G (nzL ss args) K else (match Γ f with | some o => o args K | none => False) else Γ g
theorem ctxA_ok {P : Program} {Γ : Ctx} {f : FuncId} {ss : List Sh} {G : List V → (V → List Ob → Prop) → Prop} (h : SoundG P Γ) (hs : SoundFn P f (fun args K => argF ss args fun a => G a K)) : SoundG P (ctxA Γ f ss G) := by
  intro g sem hg
  unfold ctxA at hg
  split at hg
  · next e =>
    cases hg
    subst e
    intro w A args us K hA ha hk
    cases h1 : fitL ss (nzL ss args) with
    | true =>
      rw [h1] at hk
      exact hs w A args us K hA ha (by show argF ss args (fun a => G a K); unfold argF; rw [h1]; exact hk)
    | false =>
      rw [h1] at hk
      cases h2 : Γ g with
      | none => rw [h2] at hk; exact hk.elim
      | some o =>
        rw [h2] at hk
        exact h g o h2 w A args us K hA ha hk
  · exact h g sem hg
def argO (ss : List Sh) (os : List OSh) (args : List V) (st : List Ob) (k : List V → List Ob → Prop) : Prop := bif fitL ss args && fitOs os st then k args st else False
theorem fnO_ok {P : Program} {f : FuncId} {sem : SemO} {ss : List Sh} {os : List OSh} {G : List V → List Ob → (V → List Ob → Prop) → Prop} (h : SoundO P f sem) (he : ∀ args st K, Imp (G args st K) (sem (mkL ss 0 args) (mkOs os 0 st) K)) : SoundO P f (fun args st K => argO ss os args st fun a s => G a s K) := by
  intro w0 c args us K hr ha hs
  unfold argO at hs
  cases h1 : fitL ss args && fitOs os c.st with
  | false => rw [h1] at hs; exact hs.elim
  | true =>
    rw [h1] at hs
    simp only [Bool.and_eq_true] at h1
    have e1 := fitL_eq _ _ h1.1
    have e2 := fitOs_eq _ _ h1.2
    have := (he _ _ K).h hs
    rw [← e1, ← e2] at this
    exact h w0 c args us K hr ha this
theorem fnO_none {P : Program} {f : FuncId} {ss : List Sh} {os : List OSh} {G : List V → List Ob → (V → List Ob → Prop) → Prop} (h : ∀ vs st K, ¬ G vs st K) : SoundO P f (fun args st K => argO ss os args st fun a s => G a s K) := by
  intro w0 c args us K hr ha hs
  unfold argO at hs
  cases h1 : fitL ss args && fitOs os c.st with
  | false => rw [h1] at hs; exact hs.elim
  | true => rw [h1] at hs; exact (h _ _ _ hs).elim
theorem fnO_ex {P : Program} {f : FuncId} {ss : List Sh} {os : List OSh} {GR : Nat → List V → List Ob → (V → List Ob → Prop) → Prop} {G : List V → List Ob → (V → List Ob → Prop) → Prop} (h : ∀ fu, SoundO P f (fun args st K => argO ss os args st fun a s => GR fu a s K)) (he : ∀ vs st K, G vs st K → ∃ fu, GR fu vs st K) :
    SoundO P f (fun args st K => argO ss os args st fun a s => G a s K) := by
  intro w0 c args us K hr ha hs
  unfold argO at hs
  cases h1 : fitL ss args && fitOs os c.st with
  | false => rw [h1] at hs; exact hs.elim
  | true =>
    rw [h1] at hs
    obtain ⟨fu, hg⟩ := he _ _ _ hs
    exact h fu w0 c args us K hr ha (by show argO ss os args c.st _; unfold argO; rw [h1]; exact hg)
def ctxE (Δ : CtxO) (f : FuncId) (rs : List Rs) (ss : List Sh) (os : List OSh) (G : List V → List Ob → (V → List Ob → Prop) → Prop) : CtxO := fun g => if g = f then some (rs, fun args st K => bif fitL ss args && fitOs os st then G args st K else (match Δ f with | some o => o.2 args st K | none => False)) else Δ g
theorem ctxE_ok {P : Program} {Δ : CtxO} {f : FuncId} {rs : List Rs} {ss : List Sh} {os : List OSh} {G : List V → List Ob → (V → List Ob → Prop) → Prop} (h : SoundGO P Δ) (hs : SoundO P f (fun args st K => argO ss os args st fun a s => G a s K)) : SoundGO P (ctxE Δ f rs ss os G) := by
  intro g x hg
  unfold ctxE at hg
  split at hg
  · next e =>
    cases hg
    subst e
    intro w0 c args us K hr ha hk
    simp only at hk
    cases h1 : fitL ss args && fitOs os c.st with
    | true =>
      rw [h1] at hk
      exact hs w0 c args us K hr ha (by show argO ss os args c.st (fun a s => G a s K); unfold argO; rw [h1]; exact hk)
    | false =>
      rw [h1] at hk
      cases h2 : Δ g with
      | none => rw [h2] at hk; exact hk.elim
      | some o =>
        rw [h2] at hk
        exact h g o h2 w0 c args us K hr ha hk
  · exact h g x hg
end Eng
end Go.Proofs.YtkpplfghhciacaaDoor
set_option linter.unusedVariables false
set_option linter.unusedSimpArgs false
namespace Go.Proofs.YtkpplfghhciacaaDoor
namespace Eng
theorem i64_id {n : Int} (h1 : -9223372036854775808 ≤ n) (h2 : n ≤ 9223372036854775807) : i64 n = n := by
  show IntKind.wrap .i64 n = n
  unfold IntKind.wrap
  simp only [IntKind.bits, IntKind.signed]
  simp
  omega
theorem i64_cases (n : Int) : -9223372036854775808 ≤ i64 n ∧ i64 n ≤ 9223372036854775807 := by
  show -9223372036854775808 ≤ IntKind.wrap .i64 n ∧ IntKind.wrap .i64 n ≤ 9223372036854775807
  unfold IntKind.wrap
  simp only [IntKind.bits, IntKind.signed]
  simp
  omega
theorem bor (a b : Bool) : (bif a then true else b) = (a || b) := by cases a <;> rfl
theorem band (a b : Bool) : (bif a then b else false) = (a && b) := by cases a <;> rfl
theorem cond_t {b : Bool} {p q : Prop} (h : b = true) (hp : p) : bif b then p else q := by subst h; exact hp
theorem cond_f {b : Bool} {p q : Prop} (h : b = false) (hq : q) : bif b then p else q := by subst h; exact hq
theorem inB_of {i : Int} {n : Nat} (h1 : 0 ≤ i) (h2 : i < n) : inB i n := ⟨h1, h2⟩
end Eng
end Go.Proofs.YtkpplfghhciacaaDoor
set_option linter.unusedVariables false
set_option linter.unusedSimpArgs false
namespace Go.Proofs.YtkpplfghhciacaaDoor
namespace Eng
open Go.RowKit Go.ChangeShapes Go.WideShapes
def chkFs (P : Program) (rec : TypeId → Ty → Bool) : List Field → Nat → Ty → Bool
  | [], _, .unit => true
  | [f], off, τ => Nat.beq f.offset off && rec f.type τ && Nat.beq (P.cellsOf f.type) τ.size
  | f :: g :: fs, off, .pair a b => Nat.beq f.offset off && rec f.type a && Nat.beq (P.cellsOf f.type) a.size && chkFs P rec (g :: fs) (off + a.size) b
  | _, _, _ => false
def chk (P : Program) : Nat → TypeId → Ty → Bool
  | 0, _, _ => false
  | n + 1, t, τ => match P.underlying t with
    | some (.int k) => Ty.eqb τ (.int k)
    | some .bool => Ty.eqb τ .bool
    | some .string => Ty.eqb τ .str
    | some (.slice e) => match τ with
      | .slice τe => chk P n e τe && Nat.beq (P.cellsOf e) τe.size && Nat.blt 0 τe.size
      | _ => false
    | some (.struct fs) => chkFs P (chk P n) fs.toList 0 τ && Nat.beq (P.cellsOf t) τ.size
    | _ => false
def inK (k : IntKind) (n : Int) : Prop := k.min ≤ n ∧ n ≤ k.max
def sizeS (s : ByteArray) : Nat := s.size
def WfL {α : Type} (f : α → Prop) (l : List α) : Prop := l.length ≤ maxLen ∧ ∀ x, x ∈ l → f x
def bulkL {α : Type} (f : α → Nat) : List α → Nat
  | [] => 0
  | x :: r => f x + bulkL f r
def Wf : (t : Ty) → t.den → Prop
  | .int k, n => inK k n
  | .bool, _ => True
  | .str, s => sizeS s ≤ maxLen
  | .unit, _ => True
  | .pair a b, p => Wf a p.1 ∧ Wf b p.2
  | .slice e, xs => WfL (Wf e) xs
  | .hnd, _ => True
def bulk : (t : Ty) → t.den → Nat
  | .int _, _ => 1
  | .bool, _ => 1
  | .str, s => sizeS s + 1
  | .unit, _ => 0
  | .pair a b, p => bulk a p.1 + bulk b p.2
  | .slice e, xs => bulkL (bulk e) xs + 1
  | .hnd, _ => 1
variable {H : Type} {enc0 : TypeId × Value → H} {P : Program} {w : World}
theorem bulkAll_append : ∀ (a b : List (DataW H)), Rows.uptoBulkAll (a ++ b) = Rows.uptoBulkAll a + Rows.uptoBulkAll b
  | [], b => by simp [Rows.uptoBulkAll]
  | d :: a, b => by simp [Rows.uptoBulkAll, bulkAll_append a b, Nat.add_assoc]
abbrev ReadsAs (enc0 : TypeId × Value → H) (P : Program) (w : World) (sp : Nat → Bool) (rec : TypeId → Ty → Bool) (n : Nat) : Prop :=
  ∀ (t : TypeId) (τ : Ty) (cs : List Value) (x : DataW H × List MemPlace), rec t τ = true → DataW.trod enc0 P w 0 sp true n t cs = some x →
    ∃ y : τ.den, RoV w (fun b _ => b < w.heap.size) τ y cs ∧ Wf τ y ∧ bulk τ y ≤ Rows.uptoBulk x.1
theorem readFs {sp : Nat → Bool} {rec : TypeId → Ty → Bool} {n : Nat} (ih : ReadsAs enc0 P w sp rec n) : ∀ (fs : List Field) (off : Nat) (τ : Ty) (cs : List Value) (xs : List (DataW H × List MemPlace)), chkFs P rec fs off τ = true →
    cs.length = off + τ.size → xs.length = fs.length → (∀ (i : Nat) (f : Field), fs[i]? = some f → DataW.trod enc0 P w 0 sp true n f.type ((cs.drop f.offset).take (P.cellsOf f.type)) = xs[i]?) →
    ∃ y : τ.den, RoV w (fun b _ => b < w.heap.size) τ y (cs.drop off) ∧ Wf τ y ∧ bulk τ y ≤ Rows.uptoBulkAll (xs.map (·.1))
  | [], off, τ, cs, xs, h, hl, hx, hf => by
    cases τ <;> simp only [chkFs, Bool.false_eq_true] at h
    refine ⟨(), ?_, trivial, by simp [bulk]⟩
    simp only [RoV]
    simp only [Ty.size] at hl
    simp [hl]
  | [f], off, τ, cs, xs, h, hl, hx, hf => by
    match xs, hx with
    | [x], _ =>
    simp only [chkFs, Bool.and_eq_true, Nat.beq_eq] at h
    obtain ⟨⟨h1, h2⟩, h3⟩ := h
    have hr := hf 0 f rfl
    simp only [List.getElem?_cons_zero] at hr
    rw [h1, h3, List.take_of_length_le (by simp; omega)] at hr
    obtain ⟨y, g1, g2, g3⟩ := ih f.type τ _ x h2 hr
    exact ⟨y, g1, g2, by simpa [Rows.uptoBulkAll] using g3⟩
  | f :: g :: fs, off, τ, cs, xs, h, hl, hx, hf => by
    match xs, hx with
    | x :: xs, hx =>
    cases τ <;> simp only [chkFs, Bool.false_eq_true] at h
    case pair a b =>
    simp only [Bool.and_eq_true, Nat.beq_eq] at h
    obtain ⟨⟨⟨h1, h2⟩, h3⟩, h4⟩ := h
    simp only [Ty.size] at hl
    have hr := hf 0 f rfl
    simp only [List.getElem?_cons_zero] at hr
    rw [h1, h3] at hr
    obtain ⟨y, g1, g2, g3⟩ := ih f.type a _ x h2 hr
    obtain ⟨z, k1, k2, k3⟩ := readFs ih (g :: fs) (off + a.size) b cs xs h4 (by omega) (by simpa using hx) (fun i f' hi => by
      have := hf (i + 1) f' (by simpa using hi)
      simpa using this)
    refine ⟨(y, z), ?_, ⟨g2, k2⟩, ?_⟩
    · simp only [RoV]
      refine ⟨_, _, ?_, g1, k1⟩
      rw [← List.drop_drop, List.take_append_drop]
    · simp only [bulk, List.map_cons, Rows.uptoBulkAll]
      omega
theorem cell_lt {w : World} {a : Addr} {v : Value} (h : w.cell? a = some v) : a.block < w.heap.size ∧ a.spot = none := by
  unfold World.cell? at h
  split at h
  · next c t fz e =>
    refine ⟨(Array.getElem?_eq_some_iff.1 e).1, ?_⟩
    cases hs : a.spot with
    | none => rfl
    | some k => simp [hs] at h
  · cases h
theorem read_ok (sp : Nat → Bool) : ∀ (n m : Nat), ReadsAs enc0 P w sp (chk P n) m
  | 0, m => fun t τ cs x h _ => by simp [chk] at h
  | n + 1, m => fun t τ cs x h ht => by
    have hm : ∃ m', m = m' + 1 := by
      cases m with
      | zero => simp [DataW.trod] at ht
      | succ m => exact ⟨m, rfl⟩
    simp only [chk] at h
    split at h
    · next k hu =>
      have := Ty.eqb_eq h
      subst this
      obtain ⟨v, rfl, rfl, hw⟩ := DataW.trod_int hu ht
      simp only [Lit.wf, Bool.and_eq_true, decide_eq_true_eq] at hw
      exact ⟨v, by simp only [RoV], hw, by simp [bulk, Rows.uptoBulk]⟩
    · next hu =>
      have := Ty.eqb_eq h
      subst this
      obtain ⟨v, rfl, rfl⟩ := DataW.trod_bool hu ht
      exact ⟨v, by simp only [RoV], trivial, by simp [bulk, Rows.uptoBulk]⟩
    · next hu =>
      have := Ty.eqb_eq h
      subst this
      obtain ⟨v, rfl, rfl, hw⟩ := DataW.trod_string hu ht
      exact ⟨v, by simp only [RoV], hw, by simp [bulk, sizeS, Rows.uptoBulk]⟩
    · next e hu =>
      split at h
      · next τe =>
        simp only [Bool.and_eq_true, Nat.beq_eq, Nat.blt_eq] at h
        obtain ⟨⟨h1, h2⟩, h3⟩ := h
        rcases DataW.trod_slice hu ht with ⟨rfl, rfl⟩ | ⟨a, len, cap, elems, rest, m', rfl, rfl, rfl, hb, hl, hcm, hlen, hel, _, _⟩
        · refine ⟨([] : List τe.den), ?_, ⟨by simp [maxLen], fun x hx => by simp at hx⟩, by simp [bulk, bulkL, Rows.uptoBulk]⟩
          simp only [RoV]
          exact .inl ⟨rfl, rfl⟩
        · have key : ∀ (es : List (DataW H × List MemPlace)) (k : Nat), (∀ i, i < es.length → (w.cells? 0 (a.add ((k + i) * P.cellsOf e)) (P.cellsOf e)).bind (DataW.trod enc0 P w 0 sp true m' e) = es[i]?) →
              ∃ ys : List τe.den, ys.length = es.length ∧ (es ≠ [] → a.spot = none ∨ 0 < k) ∧ (∀ x, x ∈ ys → Wf τe x) ∧ bulkL (bulk τe) ys ≤ Rows.uptoBulkAll (es.map (·.1)) ∧
                ∀ (i : Nat) (y : τe.den), ys[i]? = some y → ∃ cs : List Value, cs.length = τe.size ∧ RoV w (fun b _ => b < w.heap.size) τe y cs ∧
                  ∀ (j : Nat) (u : Value), cs[j]? = some u → w.cell? ⟨a.block, a.off + (k + i) * τe.size + j, none⟩ = some u ∧ a.block < w.heap.size := by
            intro es
            induction es with
            | nil => intro k _; exact ⟨[], rfl, fun h => absurd rfl h, fun x hx => by simp at hx, by simp [bulkL], fun i y hy => by simp at hy⟩
            | cons d es ihe =>
              intro k hk
              have h0 := hk 0 (by simp)
              simp only [List.getElem?_cons_zero, Nat.add_zero] at h0
              obtain ⟨cs, hc1, hc2⟩ := Option.bind_eq_some_iff.1 h0
              obtain ⟨y, g1, g2, g3⟩ := read_ok sp n m' e τe cs d h1 hc2
              obtain ⟨_, hcl, hcc⟩ := World.cells?_some hc1
              obtain ⟨ys, e1, e2, e3, e4, e5⟩ := ihe (k + 1) (fun i hi => by
                have := hk (i + 1) (by simpa using hi)
                rw [show k + (i + 1) = k + 1 + i from by omega] at this
                simpa using this)
              have hcs : ∀ (j : Nat) (u : Value), cs[j]? = some u → w.cell? ⟨a.block, a.off + k * τe.size + j, none⟩ = some u ∧ a.block < w.heap.size ∧ (k * P.cellsOf e + j = 0 → a.spot = none) := by
                intro j u hj
                have hjl : j < cs.length := (List.getElem?_eq_some_iff.1 hj).1
                have hc := hcc j (by omega)
                rw [hj] at hc
                obtain ⟨q1, q2⟩ := cell_lt hc
                have hadd : (a.add (k * P.cellsOf e)).add j = ⟨a.block, a.off + k * τe.size + j, none⟩ := by
                  have hbl : ((a.add (k * P.cellsOf e)).add j).block = a.block := by unfold Addr.add; split <;> split <;> rfl
                  have hof : ((a.add (k * P.cellsOf e)).add j).off = a.off + k * P.cellsOf e + j := by unfold Addr.add; split <;> split <;> simp_all
                  have hz : ∀ z : Addr, z.spot = none → z = ⟨z.block, z.off, none⟩ := fun z hz => by cases z; simp_all
                  rw [hz _ q2, hbl, hof, h2]
                rw [hadd] at hc
                have hblk : ((a.add (k * P.cellsOf e)).add j).block = a.block := by unfold Addr.add; split <;> split <;> rfl
                rw [hblk] at q1
                refine ⟨hc, q1, fun hz => ?_⟩
                have hz1 : k * P.cellsOf e = 0 := by omega
                have hz2 : j = 0 := by omega
                rw [hz1, hz2] at q2
                simpa [Addr.add] using q2
              refine ⟨y :: ys, by simp [e1], fun _ => ?_, ?_, ?_, ?_⟩
              · rcases Nat.eq_zero_or_pos k with hk0 | hk0
                · subst hk0
                  have hlt : 0 < cs.length := by omega
                  exact .inl ((hcs 0 _ (List.getElem?_eq_getElem hlt)).2.2 (by simp))
                · exact .inr hk0
              · intro x hx
                rcases List.mem_cons.1 hx with rfl | hx
                · exact g2
                · exact e3 x hx
              · simp only [bulkL, List.map_cons, Rows.uptoBulkAll]; omega
              · intro i z hz
                cases i with
                | zero =>
                  simp only [List.getElem?_cons_zero, Option.some.injEq] at hz
                  subst hz
                  exact ⟨cs, by omega, g1, fun j u hj => ⟨(hcs j u hj).1, (hcs j u hj).2.1⟩⟩
                | succ i =>
                  simp only [List.getElem?_cons_succ] at hz
                  obtain ⟨cs', q1, q2, q3⟩ := e5 i z hz
                  refine ⟨cs', q1, q2, fun j u hj => ?_⟩
                  have := q3 j u hj
                  rw [show k + 1 + i = k + (i + 1) from by omega] at this
                  exact this
          obtain ⟨ys, e1, e2, e3, e4, e5⟩ := key elems 0 (fun i hi => by rw [Nat.zero_add]; exact hel i (by omega))
          refine ⟨ys, ?_, ⟨by omega, e3⟩, ?_⟩
          · simp only [RoV]
            refine .inr ⟨a.block, a.off, a.spot, cap, ?_, ?_, by omega, fun i y hy => ?_⟩
            · rw [e1, hlen]
            · intro hne
              have : elems ≠ [] := by
                rintro rfl
                exact hne (List.length_eq_zero_iff.1 (by simpa using e1))
              rcases e2 this with h | h
              · exact h
              · omega
            · obtain ⟨cs, q1, q2, q3⟩ := e5 i y hy
              refine ⟨cs, q1, q2, fun j u hj => ?_⟩
              have := q3 j u hj
              rw [Nat.zero_add] at this
              exact this
          · simp only [bulk, Rows.uptoBulk]
            omega
      · cases h
    · next fs hu =>
      simp only [Bool.and_eq_true, Nat.beq_eq] at h
      obtain ⟨xs, m', rfl, rfl, hl, hxl, hf⟩ := DataW.trod_struct hu ht
      obtain ⟨y, g1, g2, g3⟩ := readFs (read_ok sp n m') fs.toList 0 τ cs xs h.1 (by omega) (by simpa using hxl) (fun i f hi => hf i f (by simpa using hi))
      refine ⟨y, by simpa using g1, g2, ?_⟩
      simp only [Rows.uptoBulk]
      omega
    · cases h
def ArgDen : List (Bool × Ty) → Type
  | [] => Unit
  | (_, t) :: r => t.den × ArgDen r
def lawArg : Bool → (t : Ty) → t.den → V
  | true, t, y => .agg (enc t y)
  | false, t, y => (enc t y).headD .any
def lawArgs : (ps : List (Bool × Ty)) → ArgDen ps → List V
  | [], _ => []
  | (b, t) :: r, xs => lawArg b t xs.1 :: lawArgs r xs.2
def WfAll : (ps : List (Bool × Ty)) → ArgDen ps → Prop
  | [], _ => True
  | (_, t) :: r, xs => Wf t xs.1 ∧ WfAll r xs.2
def bulkAll : (ps : List (Bool × Ty)) → ArgDen ps → Nat
  | [], _ => 0
  | (_, t) :: r, xs => bulk t xs.1 + bulkAll r xs.2
def aggT (P : Program) (t : TypeId) : Bool := match P.underlying t with
  | some (.struct _) => true
  | _ => false
def chkAll (P : Program) : List TypeId → List (Bool × Ty) → Bool
  | [], [] => true
  | t :: ts, (b, τ) :: r => chk P 12 t τ && (aggT P t == b) && Nat.beq (Ty.size τ) (bif b then Ty.size τ else 1) && P.readableRec t && Nat.blt t P.types.size && chkAll P ts r
  | _, _ => false
theorem read_arg {n : Nat} {t : TypeId} {b : Bool} {τ : Ty} {v : Value} {d : DataW H} {ps : List MemPlace} {sp : Nat → Bool} {base : Nat} (hc : chk P n t τ = true) (hb : aggT P t = b) (hsz : b = false → τ.size = 1)
    (hval : Value.okWide P w .any base t v) (h : DataW.Trod enc0 P w 0 sp true t v d ps) :
    ∃ y : τ.den, RelV (lent w) (lawArg b τ y) v ∧ Wf τ y ∧ bulk τ y ≤ Rows.uptoBulk d := by
  obtain ⟨m, hm⟩ := h
  obtain ⟨y, h1, h2, h3⟩ := read_ok sp n m t τ _ _ hc hm
  refine ⟨y, ?_, h2, h3⟩
  have hrel := RoV.rel (c := lent w) h1
  cases b with
  | true =>
    unfold aggT at hb
    split at hb
    · next fs hu =>
      obtain ⟨cs, rfl, _⟩ := okWide_struct hu hval
      simp only [lawArg, RelV]
      exact ⟨cs, rfl, by simpa [Value.cells] using hrel⟩
    · cases hb
  | false =>
    have hs := hsz rfl
    have hcells : v.cells.toList = [v] ∨ ∃ cs, v = .agg cs := by
      cases v <;> first | exact .inl rfl | exact .inr ⟨_, rfl⟩
    have hv : v.cells.toList = [v] := by
      rcases hcells with h | ⟨cs, rfl⟩
      · exact h
      · exfalso
        unfold Value.okWide at hval
        unfold aggT at hb
        cases n with
        | zero => simp [chk] at hc
        | succ n =>
          simp only [chk] at hc
          split at hval
          · next hu => rw [hu] at hb; cases hb
          · next hu => rw [hu] at hc; cases hc
          · unfold Cell.okWide at hval
            split at hval <;> first | exact hval.elim | (simp only [Cell.ok] at hval; split at hval <;> simp_all) | simp_all
    rw [hv] at hrel
    simp only [lawArg]
    have hlen := hrel.length
    match henc : enc τ y with
    | [] => rw [henc] at hlen; simp at hlen
    | x :: r =>
      rw [henc] at hrel
      simp only [RelVs] at hrel
      obtain ⟨u, us', e, h4, h5⟩ := hrel
      cases e
      simpa using h4
theorem read_args {sp : Nat → Bool} {base : Nat} : ∀ {ts : List TypeId} {ps : List (Bool × Ty)} {vs : List Value} {ds : List (DataW H)} {pl : List MemPlace}, chkAll P ts ps = true →
    (∀ (j : Nat) t v, ts[j]? = some t → vs[j]? = some v → Value.okWide P w .any base t v) → DataW.TrodAll enc0 P w 0 sp true ts vs ds pl →
    ∃ xs : ArgDen ps, RelVs (lent w) (lawArgs ps xs) vs ∧ WfAll ps xs ∧ bulkAll ps xs ≤ Rows.uptoBulkAll ds
  | [], [], vs, ds, pl, _, _, h => by
    obtain ⟨rfl, rfl, rfl⟩ := trodAll_nil h
    exact ⟨(), RelVs.nil, trivial, by simp [bulkAll]⟩
  | t :: ts, (b, τ) :: ps, vs, ds, pl, hc, hval, h => by
    obtain ⟨v, vs1, d, ds1, a, a', rfl, rfl, rfl, h1, h2⟩ := trodAll_cons h
    simp only [chkAll, Bool.and_eq_true, beq_iff_eq, Nat.beq_eq] at hc
    obtain ⟨⟨⟨⟨⟨k1, k2⟩, k3⟩, k4⟩, k5⟩, k6⟩ := hc
    obtain ⟨y, g1, g2, g3⟩ := read_arg k1 k2 (fun hb => by rw [hb] at k3; exact k3) (hval 0 t v rfl rfl) h1
    obtain ⟨xs, e1, e2, e3⟩ := read_args k6 (fun j t' v' ht hv => hval (j + 1) t' v' (by simpa using ht) (by simpa using hv)) h2
    exact ⟨(y, xs), RelVs.cons g1 e1, ⟨g2, e2⟩, by simp only [bulkAll, Rows.uptoBulkAll]; omega⟩
  | [], _ :: _, _, _, _, hc, _, _ => by simp [chkAll] at hc
  | _ :: _, [], _, _, _, hc, _, _ => by simp [chkAll] at hc
theorem stay_args (hl : laidOutB P = true) {W W' : World} (hb : Below W.heap.size W W') (sp : Nat → Bool) : ∀ {ts : List TypeId} {ps : List (Bool × Ty)} {vs : List Value} {ds : List (DataW H)} {pl : List MemPlace}, chkAll P ts ps = true →
    DataW.TrodAll enc0 P W 0 (fun _ => true) true ts vs ds pl → (∀ p ∈ pl, p.block < W.heap.size) → (∀ p ∈ pl, sp p.block = true) → DataW.TrodAll enc0 P W' 0 sp true ts vs ds pl
  | [], [], vs, ds, pl, _, h, _, _ => by
    obtain ⟨rfl, rfl, rfl⟩ := trodAll_nil h
    exact trodAll_mk0
  | t :: ts, (b, τ) :: ps, vs, ds, pl, hc, h, hlt, hsp => by
    obtain ⟨v, vs1, d, ds1, a, a', rfl, rfl, rfl, h1, h2⟩ := trodAll_cons h
    simp only [chkAll, Bool.and_eq_true, beq_iff_eq, Nat.beq_eq, Nat.blt_eq] at hc
    obtain ⟨⟨⟨⟨⟨k1, k2⟩, k3⟩, k4⟩, k5⟩, k6⟩ := hc
    exact trodAll_cons_mk (WideElems.Trod_stays hl k4 k5 h1 (fun x hx => hb.same (hlt x (by simp [hx]))) (fun x hx => hsp x (by simp [hx])))
      (stay_args hl hb sp k6 h2 (fun p hp => hlt p (by simp [hp])) (fun p hp => hsp p (by simp [hp])))
  | [], _ :: _, _, _, _, hc, _, _, _ => by simp [chkAll] at hc
  | _ :: _, [], _, _, _, hc, _, _, _ => by simp [chkAll] at hc
structure LawSpec (s : ChangeSpec) (n : Nat) : Prop where
  vars : s.vars = []
  res : ∀ (H : Type) (ds : List (DataW H)), ds.length = n → (s.fn H ds).results = [.lit (.bool true)]
  args : ∀ (H : Type) (ds : List (DataW H)), ds.length = n → (s.fn H ds).args = ds
  left : ∀ (H : Type) (ds : List (DataW H)), ds.length = n → (s.fn H ds).vars = []
def isTrue : V → List Ob → Prop := fun v _ => v = .x (.bool true)
theorem trodAll_len {sp : Nat → Bool} : ∀ {ts : List TypeId} {vs : List Value} {ds : List (DataW H)} {pl : List MemPlace}, DataW.TrodAll enc0 P w 0 sp true ts vs ds pl → ds.length = ts.length
  | [], vs, ds, pl, h => by
    obtain ⟨rfl, rfl, rfl⟩ := trodAll_nil h
    rfl
  | t :: ts, vs, ds, pl, h => by
    obtain ⟨v, vs1, d, ds1, a, a', rfl, rfl, rfl, h1, h2⟩ := trodAll_cons h
    simp [trodAll_len h2]
theorem law_contract (hl : laidOutB P = true) {f : FuncId} {fn : Func} {s : ChangeSpec} {ps : List (Bool × Ty)} {tb : TypeId} {sem : SemF} {small : Bool}
    (hps : chkAll P fn.params.toList ps = true) (hrt : fn.resultTypes = #[tb]) (htb : P.underlying tb = some .bool) (hs : LawSpec s fn.params.toList.length)
    (hS : SoundFn P f sem) (hlaw : ∀ xs : ArgDen ps, WfAll ps xs → (small = true → bulkAll ps xs ≤ 1048576) → sem (lawArgs ps xs) isTrue)
    {W : World} {base : Nat} {args : Array Value} {ds gs : List (DataW H)} {before : List MemPlace}
    (hval : ∀ (j : Nat) t v, fn.params[j]? = some t → args[j]? = some v → Value.okWide P W .any base t v)
    (hW : DataW.Whole enc0 P fn.params.toList s.vars false W args.toList ds gs before)
    (hk : small = true → Rows.uptoSmall H (ds ++ gs) = true) :
    Calls P f args W fun e W' => ∃ v, e = .returned v ∧ s.post enc0 P fn false true false false W args v W' := by
  have hW' := hW
  obtain ⟨p, q, hA, hV, rfl, hfz, hnd⟩ := hW
  rw [hs.vars] at hV
  obtain ⟨rfl, rfl⟩ := trodVars_none hV
  obtain ⟨xs, h1, h2, h3⟩ := read_args hps (fun j t v ht hv => hval j t v (by simpa using ht) (by simpa using hv)) hA
  have hbulk : small = true → bulkAll ps xs ≤ 1048576 := fun hsm => by
    have := hk hsm
    simp only [Rows.uptoSmall, decide_eq_true_eq, List.append_nil] at this
    omega
  have hlen := trodAll_len hA
  refine (hS W (fun b _ => b < W.heap.size) _ args isTrue (fun b o h => h) h1 (hlaw xs h2 hbulk)).mono fun e W' hh => ?_
  obtain ⟨u, v, c', rfl, rfl, g1, _, g3, g4⟩ := hh
  unfold isTrue at g4
  subst g4
  simp only [RelV] at g3
  subst g3
  have hb : Below W.heap.size W c'.w := ⟨g1.below.b0.os, g1.below.b0.tape, g1.below.b0.output, g1.below.b0.size, fun k hk => g1.below.block k (noOwn hk)⟩
  refine ⟨_, rfl, ?_⟩
  have hold : ∀ z ∈ p ++ [], (fun b => decide (b < W.heap.size)) z.block = true := fun z hz => by simpa using hW'.lt z hz
  have hlt : ∀ x ∈ p, x.block < W.heap.size := fun x hx => hW'.lt x (by simp [hx])
  have e1 := hs.res H (ds ++ []) (by simpa using hlen)
  have e2 := hs.args H (ds ++ []) (by simpa using hlen)
  have e3 := hs.left H (ds ++ []) (by simpa using hlen)
  have hres : ∀ (b : Nat) (sp : Nat → Bool) (hd : Bool), DataW.TrodAll enc0 P c'.w b sp hd fn.resultTypes.toList ((Value.bool true).resultList fn.resultTypes.size) (s.fn H (ds ++ [])).results [] := fun b sp hd => by
    rw [e1, hrt]
    exact trodAll_cons_mk (shut_bool htb true) trodAll_mk0
  have hargs : ∀ sp : Nat → Bool, (∀ x ∈ p ++ [], sp x.block = true) → DataW.TrodAll enc0 P c'.w 0 sp true fn.params.toList args.toList (s.fn H (ds ++ [])).args p := fun sp hsp => by
    rw [e2]
    simpa using stay_args hl hb sp hps hA hlt (fun x hx => hsp x (by simp [hx]))
  have hvars : ∀ sp : Nat → Bool, DataW.TrodVars enc0 P c'.w sp s.vars (s.fn H (ds ++ [])).vars [] := fun sp => by
    rw [e3, hs.vars]
    rfl
  refine ⟨ds, [], p ++ [], [], p, [], hW', hres _ _ _, hargs _ hold, hvars _, World.keptBut_mono (fun x hx => ⟨hx, .inr (by simpa using hx)⟩) (hb.frame (· ∈ p ++ [])), fun _ => ?_⟩
  refine ⟨ok_one hrt rfl (okWide_bool_mk htb true), _, _, ([] ++ p) ++ [], ⟨[] ++ p, [], trodAll_append (hargs _ (fun _ _ => rfl)) (hres _ _ _), hvars _, rfl, ?_, ?_⟩, ?_⟩
  · intro b off hp
    have hp' : MemPlace.cell b off ∈ p ++ [] := by simpa using hp
    rw [hb.frozen (p := ⟨b, off, none⟩) (hW'.lt _ hp')]
    exact hfz b off hp'
  · intro ha
    cases ha
  · intro x hx _
    simpa using hx
end Eng
end Go.Proofs.YtkpplfghhciacaaDoor
set_option linter.unusedVariables false
set_option linter.unusedSimpArgs false
namespace Go.Proofs.YtkpplfghhciacaaDoor
namespace Ins
open Go.RowKit Go.Lib Go.Proofs.YtkpplfghhciacaaDoor.Eng
theorem step_append_run {P : Program} {ops : Array Oper} {o : Oper} {a : Act} {w : World} {K : Act → World → Prop} {Q : Exit → Act → World → Prop} {E : Prop}
    (hg : o.guard = none) (d x : Operand) (dT sT : TypeId) (hop : o.op = Op.call { callee := Callee.builtin Builtin.append, args := #[d, x], argTypes := #[dT, sT] })
    (v u : Value) (hd : a.eval d = v) (hx : a.eval x = u) {v' : Value} {w' : World} (hr : (Builtin.append_ #[dT, sT] o.type #[v, u]).run P w = .ok v' w') (hK : K (a.put o.dst v') w') :
    if Region.wanted o (yielded ops a.tmps) = true then Oper.wp P o a w K Q else E := by
  have hw : Region.wanted o (yielded ops a.tmps) = true := by simp [Region.wanted, hg]
  rw [if_pos hw]
  unfold Oper.wp
  simp [execOp, hop, resolve, invoke, builtin, hd, hx, hr, Result.andThen]
  exact hK
theorem wp_clear_run {P : Program} (w : World) {o : Oper} {a : Act} {K : Act → World → Prop} {Q : Exit → Act → World → Prop} (d : Operand) (t : TypeId)
    (ho : o.op = .call { callee := .builtin .clear, args := #[d], argTypes := #[t] }) (v : Value) (hd : a.eval d = v) {v' : Value} {w' : World}
    (hr : (Builtin.clear_ #[t] o.type #[v]).run P w = .ok v' w') (h : K (a.put o.dst v') w') : o.wp P a w K Q := by
  unfold Oper.wp execOp
  simp only [ho, resolve, invoke, builtin, Sem.run_bind, Sem.run_pure, Result.andThen_ok, List.map_toArray, List.map_cons, List.map_nil, hd, hr]
  exact h
theorem wpList_clear_run {P : Program} (w : World) {ops : Array Oper} {rest : List Oper} {o : Oper} {a : Act} {Q : Exit → Act → World → Prop} (hgd : o.guard = none) (d : Operand) (t : TypeId)
    (ho : o.op = .call { callee := .builtin .clear, args := #[d], argTypes := #[t] }) (v : Value) (hd : a.eval d = v) {v' : Value} {w' : World}
    (hr : (Builtin.clear_ #[t] o.type #[v]).run P w = .ok v' w') (h : wpList P ops Q rest (a.put o.dst v') w') : wpList P ops Q (o :: rest) a w :=
  wpList_plain hgd fun _ hK => wp_clear_run w d t ho v hd hr (hK _ _ h)
theorem mixed : Tryd.prog.follows Departure.mixedOrders = true := by kernel_rfl
theorem und : Tryd.prog.underlying 39 = some (.slice 53) := by kernel_rfl
set_option maxHeartbeats 4000000 in
set_option maxRecDepth 100000 in
theorem ins_end (base : Option Addr) (n c vb m vc : Nat) (w w1 : World) (v1 : Value) (hm : 0 < m) (hnc : n ≤ c) (hc : n + m ≤ 1099511627776) (hnil : base = none → n = 0 ∧ c = 0)
    (hrun : ∀ ty, (Builtin.append_ #[39, 39] ty #[.slice base n c, .slice (some ⟨vb, 0, none⟩) m vc]).run Tryd.prog w = .ok v1 w1) :
    Calls Tryd.prog 64 #[.slice base n c, .int .i64 n, .slice (some ⟨vb, 0, none⟩) m vc] w fun e w' => e = .returned v1 ∧ w' = w1 := by
  have hz1 : ¬ ((m : Int) = 0) := by omega
  go_enter Tryd.func64, Tryd.ntmps64
  cases base with
  | none =>
    obtain ⟨h0, h1⟩ := hnil rfl
    subst h0
    subst h1
    go_wp2_with (at_builtin; refine Lib.wpList_append_run _ rfl _ _ _ _ rfl _ _ rfl rfl _ _ (hrun _) ?_)
    go_ret
    exact ⟨rfl, rfl⟩
  | some a =>
    obtain ⟨ab, ao, asp⟩ := a
    go_wp2_with (at_builtin; refine Lib.wpList_append_run _ rfl _ _ _ _ rfl _ _ rfl rfl _ _ (hrun _) ?_)
    all_goals (go_ret; exact ⟨rfl, rfl⟩)
set_option maxHeartbeats 4000000 in
set_option maxRecDepth 100000 in
theorem ins_shift (b n c i vb m vc : Nat) (w w1 w2 : World) (x1 x2 : Value) (hi : i < n) (hm : 0 < m) (hroom : n + m ≤ c) (hc63 : n + m ≤ 1099511627776) (hvb : vb ≠ b)
    (hov : ∀ lb cb, (Extern.SlicesOverlaps.overlaps #[39, 39] #[4] #[.slice (some ⟨vb, 0, none⟩) m vc, .slice (some ⟨b, (i + m) * 2, none⟩) lb cb]).run Tryd.prog w = .ok (.bool false) w)
    (hcp1 : ∀ ty dc sc, (Builtin.copy_ #[39, 39] ty #[.slice (some ⟨b, (i + m) * 2, none⟩) (n + m - (i + m)) dc, .slice (some ⟨b, i * 2, none⟩) (n + m - i) sc]).run Tryd.prog w.drew = .ok x1 w1)
    (hcp2 : ∀ ty dc, (Builtin.copy_ #[39, 39] ty #[.slice (some ⟨b, i * 2, none⟩) (n + m - i) dc, .slice (some ⟨vb, 0, none⟩) m vc]).run Tryd.prog w1 = .ok x2 w2) :
    Calls Tryd.prog 64 #[.slice (some ⟨b, 0, none⟩) n c, .int .i64 i, .slice (some ⟨vb, 0, none⟩) m vc] w fun e w' =>
      e = .returned (.slice (some ⟨b, 0, none⟩) (n + m) c) ∧ w' = w2 := by
  have hz1 : ¬ ((m : Int) = 0) := by omega
  have hz2 : ¬ ((i : Int) = (n : Int)) := by omega
  have hov' : ∀ lb cb, (callFunc 71 #[.slice (some ⟨vb, 0, none⟩) m vc, .slice (some ⟨b, (i + m) * 2, none⟩) lb cb]).run Tryd.prog w = .ok (.value (.bool false)) w := fun lb cb => by
    rw [run_callFunc_extern Tryd.func71 (by kernel_rfl) (by kernel_rfl) (by kernel_rfl) (e := Extern.SlicesOverlaps.overlaps #[39, 39] #[4]) (by kernel_rfl), hov]
    rfl
  have hw1 : IntKind.i64.wrap ((i : Int) + (m : Int)) = (i : Int) + (m : Int) := by rw [IntKind.wrap_i64]; omega
  have hb1 : (0 : Int) ≤ (i : Int) + (m : Int) := by omega
  have hin : i ≤ n := by omega
  have htn : ((i : Int) + (m : Int)).toNat = i + m := by omega
  have hb2 : ¬ (c = i + m) := by omega
  have hb3 : (i : Int) ≤ (n : Int) + (m : Int) := by omega
  have hb4 : ¬ (c = i) := by omega
  clear hov
  have mixed := mixed
  go_enter Tryd.func64, Tryd.ntmps64
  go_wp2_with (simp only [hov'])
  go_region_law_o (refine step_copy_runI rfl _ _ 39 39 rfl _ _ (by simp [Act.eval, Act.put]) (by simp [Act.eval, Act.put]) (hcp1 _ _ _) ?_)
  go_wp2_with (at_builtin; refine wpList_copy_runI _ rfl _ _ 39 39 rfl _ _ rfl rfl (hcp2 _ _) ?_)
  go_ret
  exact ⟨rfl, rfl⟩
set_option maxHeartbeats 4000000 in
set_option maxRecDepth 100000 in
theorem ins_grow (b n c i vb m vc g G : Nat) (w w1 w2 w3 : World) (x1 x2 : Value) (hi : i < n) (hm : 0 < m) (hnc : n ≤ c) (hroom : c < n + m) (hc63 : n + m ≤ 1099511627776) (hGn : n + m ≤ G) (hG63 : G ≤ 9223372036854775807)
    (hrz : ∀ ty, (Builtin.append_ #[39, 3] ty #[.slice (some ⟨b, 0, none⟩) i c, .int .i64 ((n : Int) + (m : Int) - (i : Int))]).run Tryd.prog w = .ok (.slice (some ⟨g, 0, none⟩) (n + m) G) w1)
    (hcpA : ∀ ty dc, (Builtin.copy_ #[39, 39] ty #[.slice (some ⟨g, i * 2, none⟩) (n + m - i) dc, .slice (some ⟨vb, 0, none⟩) m vc]).run Tryd.prog w1 = .ok x1 w2)
    (hcpB : ∀ ty dc sc, (Builtin.copy_ #[39, 39] ty #[.slice (some ⟨g, (i + m) * 2, none⟩) (n + m - (i + m)) dc, .slice (some ⟨b, i * 2, none⟩) (n - i) sc]).run Tryd.prog w2.drew = .ok x2 w3) :
    Calls Tryd.prog 64 #[.slice (some ⟨b, 0, none⟩) n c, .int .i64 i, .slice (some ⟨vb, 0, none⟩) m vc] w fun e w' =>
      e = .returned (.slice (some ⟨g, 0, none⟩) (n + m) G) ∧ w' = w3 := by
  have mixed := mixed
  have hz1 : ¬ ((m : Int) = 0) := by omega
  have hz2 : ¬ ((i : Int) = (n : Int)) := by omega
  have hz3 : (c : Int) < (n : Int) + (m : Int) := by omega
  have hGi : ¬ (G = i) := by omega
  have hGim : ¬ (G = i + m) := by omega
  have hci : ¬ (c = i) := by omega
  have hw1 : IntKind.i64.wrap ((i : Int) + (m : Int)) = (i : Int) + (m : Int) := by rw [IntKind.wrap_i64]; omega
  have hb1 : (0 : Int) ≤ (i : Int) + (m : Int) := by omega
  have hin : i ≤ n := by omega
  have htn : ((i : Int) + (m : Int)).toNat = i + m := by omega
  have hb3 : (i : Int) ≤ (n : Int) := by omega
  go_enter Tryd.func64, Tryd.ntmps64
  go_wp2_with (first
    | (at_builtin; refine Lib.wpList_append_run _ rfl _ _ _ _ rfl _ _ rfl rfl _ _ (hrz _) ?_)
    | (at_builtin; refine wpList_copy_runI _ rfl _ _ 39 39 rfl _ _ rfl rfl (hcpA _ _) ?_))
  go_region_law_o (refine step_copy_runI rfl _ _ 39 39 rfl (.slice (some ⟨g, (i + m) * 2, none⟩) (n + m - (i + m)) (G - (i + m))) (.slice (some ⟨b, i * 2, none⟩) (n - i) (c - i)) (by simp [Act.eval, Act.put]) (by simp [Act.eval, Act.put]) (hcpB _ (G - (i + m)) (c - i)) ?_)
  go_wp2
  go_ret
  exact ⟨rfl, rfl⟩
set_option maxHeartbeats 4000000 in
set_option maxRecDepth 100000 in
theorem del_some (b n c i j : Nat) (w w1 w2 : World) (x2 : Value) (hij : i < j) (hj : j ≤ n) (hnc : n ≤ c) (hc63 : n ≤ 1099511627776)
    (hap : ∀ ty sb sc, (j < c → sb = some (⟨b, j * 2, none⟩ : Addr)) → (Builtin.append_ #[39, 39] ty #[.slice (some ⟨b, 0, none⟩) i c, .slice sb (n - j) sc]).run Tryd.prog w.drew = .ok (.slice (some ⟨b, 0, none⟩) (i + (n - j)) c) w1)
    (hcl : ∀ ty sc, (Builtin.clear_ #[39] ty #[.slice (some ⟨b, (i + (n - j)) * 2, none⟩) (n - (i + (n - j))) sc]).run Tryd.prog w1 = .ok x2 w2) :
    Calls Tryd.prog 54 #[.slice (some ⟨b, 0, none⟩) n c, .int .i64 i, .int .i64 j] w fun e w' =>
      e = .returned (.slice (some ⟨b, 0, none⟩) (i + (n - j)) c) ∧ w' = w2 := by
  have mixed := mixed
  have hz1 : ¬ ((i : Int) = (j : Int)) := by omega
  have hin : (i : Int) ≤ (j : Int) := by omega
  have hjn : (j : Int) ≤ (n : Int) := by omega
  have hjn2 : j ≤ n := hj
  have h2 : ¬ c = i + (n - j) := by omega
  have h3 : (i : Int) + ((n - j : Nat) : Int) ≤ (n : Int) := by omega
  have h4 : (0 : Int) ≤ (i : Int) + ((n - j : Nat) : Int) := by omega
  have h5 : ((i : Int) + ((n - j : Nat) : Int)).toNat = i + (n - j) := by omega
  have h6 : i ≤ c := by omega
  by_cases hcj : c = j
  · subst hcj
    obtain rfl : n = c := by omega
    have hap1 : ∀ ty, (Builtin.append_ #[39, 39] ty #[.slice (some ⟨b, 0, none⟩) i n, .slice (some ⟨b, 0, none⟩) 0 0]).run Tryd.prog w.drew = .ok (.slice (some ⟨b, 0, none⟩) i n) w1 := fun ty => by
      have := hap ty (some ⟨b, 0, none⟩) 0 (fun h => by omega)
      simpa using this
    have hcl1 : ∀ ty sc, (Builtin.clear_ #[39] ty #[.slice (some ⟨b, i * 2, none⟩) (n - i) sc]).run Tryd.prog w1 = .ok x2 w2 := fun ty sc => by
      have := hcl ty sc
      simpa using this
    have h7 : ¬ (n = i) := by omega
    clear hap hcl h2 h3 h4 h5
    go_enter Tryd.func54, Tryd.ntmps54
    go_wp2
    go_region_law_o (refine step_append_run rfl _ _ 39 39 rfl _ _ (by simp [Act.eval, Act.put]) (by simp [Act.eval, Act.put]) (hap1 _) ?_)
    go_wp2_with (at_builtin; refine wpList_clear_run _ rfl _ 39 rfl _ rfl (hcl1 _ _) ?_)
    go_ret
    exact ⟨by simp, rfl⟩
  · have hap1 : ∀ ty, (Builtin.append_ #[39, 39] ty #[.slice (some ⟨b, 0, none⟩) i c, .slice (some ⟨b, j * 2, none⟩) (n - j) (c - j)]).run Tryd.prog w.drew = .ok (.slice (some ⟨b, 0, none⟩) (i + (n - j)) c) w1 := fun ty => hap ty _ _ (fun h => rfl)
    clear hap
    go_enter Tryd.func54, Tryd.ntmps54
    go_wp2
    go_region_law_o (refine step_append_run rfl _ _ 39 39 rfl _ _ (by simp [Act.eval, Act.put]) (by simp [Act.eval, Act.put]) (hap1 _) ?_)
    go_wp2_with (at_builtin; refine wpList_clear_run _ rfl _ 39 rfl _ rfl (hcl _ _) ?_)
    go_ret
    exact ⟨rfl, rfl⟩
end Ins
end Go.Proofs.YtkpplfghhciacaaDoor
namespace Go.Proofs.YtkpplfghhciacaaDoor
namespace Ins
open Go.RowKit Go.Lib Go.Proofs.YtkpplfghhciacaaDoor.Eng
section rows
variable {α : Type} {R : α → List Value → Prop} {s : Nat} {xs : List α} {l : List Value}
theorem rows_take (k : Nat) (h : RowsR R s xs l) : RowsR R s (xs.take k) l := fun i y hy => by
  rw [List.getElem?_take] at hy
  split at hy
  · exact h i y hy
  · cases hy
theorem rows_drop (k : Nat) (h : RowsR R s xs l) : RowsR R s (xs.drop k) (l.drop (k * s)) := fun i y hy => by
  rw [List.getElem?_drop] at hy
  have h2 := h _ _ hy
  rw [List.drop_drop, ← Nat.add_mul]
  exact h2
theorem rows_pre {k : Nat} (hk : k ≤ xs.length) (hl : xs.length * s ≤ l.length) (h : RowsR R s xs l) : RowsR R s (xs.take k) (l.take (k * s)) ∧ (l.take (k * s)).length = (xs.take k).length * s := by
  have e : (xs.take k).length = k := by rw [List.length_take]; omega
  have hm : k * s ≤ xs.length * s := Nat.mul_le_mul_right _ hk
  have h2 := RowsR.take (rows_take k h) (by rw [e]; omega)
  rw [e] at h2
  exact ⟨h2, by rw [List.length_take, e]; omega⟩
theorem rows_mid {k : Nat} (hl : xs.length * s ≤ l.length) (h : RowsR R s xs l) : RowsR R s (xs.drop k) ((l.drop (k * s)).take ((xs.length - k) * s)) ∧ ((l.drop (k * s)).take ((xs.length - k) * s)).length = (xs.drop k).length * s := by
  have e : (xs.drop k).length = xs.length - k := List.length_drop
  have hd : (xs.length - k) * s ≤ (l.drop (k * s)).length := by
    rw [List.length_drop, Nat.sub_mul]; omega
  have h2 := RowsR.take (rows_drop k h) (by rw [e]; exact hd)
  rw [e] at h2
  exact ⟨h2, by rw [List.length_take, e]; omega⟩
end rows
theorem adopt_vec {w0 : Base} {c : Cfg} (hr : Rel w0 c) {r b : Nat} {t : Ty} {xs zs : List t.den} {ce ce2 : Array Value} {e : TypeId} {cap : Nat}
    (hst : c.st[r]? = some (.vec t 0 xs)) (hbl : c.bl r = some b) (hheap : c.w.heap[b]? = some (.cells ce e (0, 0))) (hpos : 0 < t.size) (hA : ∀ o, ¬ c.A b o)
    (hsz : ce2.size = cap * t.size) (hzl : zs.length ≤ cap) (hrows : RowsR (RoV c.w c.A t) t.size zs ce2.toList) :
    ∃ c', c'.w = c.w.setRow b ce2 ∧ Rel w0 c' ∧ Ext c c' ∧ c'.st = c.st.set r .dead ++ [.vec t 0 zs] ∧ RelV c' (.vec c.st.length) (.slice (some ⟨b, 0, none⟩) zs.length cap) := by
  obtain ⟨hl1, hx1⟩ := kill_rel hr r
  have hfree : ∀ q, live (c.st.set r .dead) q → c.bl q ≠ some b := by
    intro q hq hb
    have hq' : q ≠ r := by
      rintro rfl
      unfold live at hq
      rw [List.getElem?_set] at hq
      simp at hq
      split at hq <;> simp_all
    have hq2 : live c.st q := by
      unfold live at hq ⊢
      rw [List.getElem?_set_ne (fun e => hq' e.symm)] at hq
      exact hq
    exact hq' (hr.inj q r b hq2 (live_of hst (by simp)) hb hbl)
  obtain ⟨h1, h2⟩ := adopt_rel (ce := ce2) (ob := .vec t 0 zs) hl1 (hr.fresh r b (live_of hst (by simp)) hbl) hfree hheap (fun o ho => absurd ho (hA o))
    ⟨hpos, Nat.zero_le _, .inr ⟨b, ce2, e, cap, by simp [adoptC], setRow_heap c.w b ce _ e _ hheap, hsz, hzl, fun i y hy => by
      refine RoV.ext (fun _ _ h => h) (fun b' o ho => ?_) (hrows i y hy)
      show (c.w.setRow b _).cell? _ = _
      have hbb : b' ≠ b := fun hh => hA o (hh ▸ ho)
      exact World.cell?_of_block (w := c.w) (setRow_other c.w b b' _ hbb), fun o _ => hA o⟩⟩
    (fun q m row hq hm => by
      have hq0 : c.st[q]? = some (Ob.pool m) := by
        have hq' : (c.st.set r .dead)[q]? = some (Ob.pool m) := hq
        rw [List.getElem?_set] at hq'
        split at hq'
        · split at hq' <;> cases hq'
        · exact hq'
      exact ((hr.pl.2 q m hq0).2 b row hm).2.1 r (live_of hst (by simp)) hbl)
  refine ⟨_, rfl, h1, hx1.trans h2, rfl, ?_⟩
  simp only [RelV, adoptC]
  have hlen : (killC c r).st.length = c.st.length := by simp [killC]
  rw [List.getElem?_append_right (by simp [killC])]
  simp only [killC, List.length_set, Nat.sub_self, List.getElem?_cons_zero]
  exact .inr ⟨b, cap, by simp, by simp, ce2, e, _, setRow_heap c.w b ce _ e _ hheap, hsz⟩
theorem push_vec {w0 : Base} {c : Cfg} (hr : Rel w0 c) (r : Nat) {t : Ty} {zs : List t.den} {ce2 : Array Value} {e : TypeId} {cap : Nat} (hpos : 0 < t.size)
    (hsz : ce2.size = cap * t.size) (hzl : zs.length ≤ cap) (hrows : RowsR (RoV c.w c.A t) t.size zs ce2.toList) :
    ∃ c', c'.w = c.w.alloc (.cells ce2 e) ∧ Rel w0 c' ∧ Ext c c' ∧ c'.st = c.st.set r .dead ++ [.vec t 0 zs] ∧ RelV c' (.vec c.st.length) (.slice (some ⟨c.w.heap.size, 0, none⟩) zs.length cap) := by
  obtain ⟨hl1, hx1⟩ := kill_rel hr r
  obtain ⟨h1, h2⟩ := push_rel (ce := ce2) (e := e) (ob := .vec t 0 zs) hl1
    ⟨hpos, Nat.zero_le _, .inr ⟨c.w.heap.size, ce2, e, cap, by simp [pushC, killC], heap_new c.w _, hsz, hzl, fun i y hy => by
      refine RoV.ext (fun _ _ h => h) (fun b' o ho => ?_) (hrows i y hy)
      have := hr.bound b' o ho
      show (c.w.alloc _).cell? _ = _
      apply World.cell?_alloc_lt; exact this, fun o ho hn => by have h9 := hr.bound _ _ hn; omega⟩⟩
  refine ⟨_, rfl, h1, hx1.trans h2, rfl, ?_⟩
  simp only [RelV, pushC]
  rw [List.getElem?_append_right (by simp [killC])]
  simp only [killC, List.length_set, Nat.sub_self, List.getElem?_cons_zero]
  exact .inr ⟨c.w.heap.size, cap, by simp, by simp, ce2, e, _, heap_new c.w _, hsz⟩
theorem alloc_setRow (w : World) (x y : Array Value) (e : TypeId) : (w.alloc (.cells x e)).setRow w.heap.size y = w.alloc (.cells y e) := by
  unfold World.setRow World.alloc
  congr 1
  apply Array.ext_getElem?
  intro i
  rw [Array.getElem?_modify]
  by_cases hi : w.heap.size = i
  · subst hi
    simp
  · rw [if_neg hi]
    simp only [Array.getElem?_push]
    rw [if_neg (fun h => hi h.symm), if_neg (fun h => hi h.symm)]
abbrev TT : Ty := .pair .str (.slice .str)
theorem hok : elemOk Tryd.prog 53 TT = true := by kernel_rfl
theorem zone : (((Tryd.prog.info? 53).bind fun i => i.zero).map fun z => z.cells.toList.all fun v => v.oneCell') = some true := by kernel_rfl
theorem sz53 (w : World) : (sizeOf 53).run Tryd.prog w = .ok 2 w := by
  obtain ⟨i, z, hi, hsz, _⟩ := elemOk_sound hok
  have h : i.size = 2 := hsz
  rw [run_sizeOf' hi, h]
theorem run_copy {w w' : World} {n m dc k : Nat} {ty : TypeId} {src : Value} {a : Addr} {l : List Value} (hlen : (Builtin.lenOf src).run Tryd.prog w = .ok m w) (hk : Nat.min m n = k)
    (hf : (Builtin.firstCells 2 k src).run Tryd.prog w = .ok l.toArray w) (hs : (storeCells a l).run Tryd.prog w = .ok () w') :
    (Builtin.copy_ #[39, 39] ty #[.slice (some a) n dc, src]).run Tryd.prog w = .ok (goInt k) w' := by
  simp [Builtin.copy_, run_underlying und, hlen, sz53, hk, hf, hs]
def insS : SemO := fun args st K => match args with
  | [.vec r, .x (.int .i64 i), .vec q] => match st[r]?, st[q]? with
    | some (.vec (.pair .str (.slice .str)) 0 xs), some (.vec (.pair .str (.slice .str)) 0 ys) =>
      bif Nat.beq r q then False else (0 ≤ i ∧ i ≤ (xs.length : Int) ∧ ys.length ≠ 0 ∧ fits (xs.length + ys.length)) ∧ K (.vec st.length) (st.set r .dead ++ [.vec TT 0 (xs.take i.toNat ++ ys ++ xs.drop i.toNat)])
    | _, _ => False
  | _ => False
def delS : SemO := fun args st K => match args with
  | [.vec r, .x (.int .i64 i), .x (.int .i64 j)] => match st[r]? with
    | some (.vec (.pair .str (.slice .str)) 0 xs) =>
      (0 ≤ i ∧ i < j ∧ j ≤ (xs.length : Int) ∧ fits xs.length) ∧ K (.vec st.length) (st.set r .dead ++ [.vec TT 0 (xs.take i.toNat ++ xs.drop j.toNat)])
    | _ => False
  | _ => False
theorem cap_eq {w : World} {b : Nat} {ce : Array Value} {e : TypeId} {cap cap' s : Nat} {fz : Nat × Nat} (h : w.heap[b]? = some (.cells ce e fz)) (hsz : ce.size = cap * s) (hs : 0 < s) (hr : Eng.Rows w b (cap' * s)) : cap' = cap := by
  obtain ⟨ce', e', fz', g1, g2⟩ := hr
  rw [h] at g1
  cases g1
  exact Nat.eq_of_mul_eq_mul_right hs (by omega)
set_option maxHeartbeats 1600000 in
theorem del_sound {w0 : Base} {c : Cfg} (hr : Rel w0 c) {r : Nat} {xs : List TT.den} {u : Value} {i j : Nat} (hst : c.st[r]? = some (.vec TT 0 xs)) (hv : RelV c (.vec r) u) (hij : i < j) (hj : j ≤ xs.length) (hfit : fits xs.length) :
    Calls Tryd.prog 54 #[u, .int .i64 i, .int .i64 j] c.w fun e w' => ∃ v c', e = .returned v ∧ c'.w = w' ∧ Rel w0 c' ∧ Ext c c' ∧ RelV c' (.vec c.st.length) v ∧ c'.st = c.st.set r .dead ++ [.vec TT 0 (xs.take i ++ xs.drop j)] := by
  simp only [RelV, hst] at hv
  obtain ⟨hpos, _, ⟨_, h2⟩ | ⟨b, ce, e, cap, h1, h2, h3, h4, h5, h6⟩⟩ := hr.obj r _ hst
  · subst h2
    simp at hj
    omega
  rcases hv with ⟨hb, _⟩ | ⟨b', cap', hb, rfl, hrows⟩
  · rw [h1] at hb; cases hb
  rw [h1] at hb; cases hb
  obtain rfl := cap_eq h2 h3 hpos hrows
  have hS : TT.size = 2 := rfl
  replace h3 : ce.size = cap' * 2 := h3
  replace h5 : RowsR (RoV c.w c.A TT) 2 xs ce.toList := h5
  have hce : ce.toList.length = cap' * 2 := by simpa using h3
  have hxl : xs.length * 2 ≤ ce.toList.length := by rw [hce]; exact Nat.mul_le_mul_right _ h4
  have hA : ∀ o, ¬ c.A b o := fun o => h6 o (by rw [Nat.zero_mul]; exact Nat.zero_le _)
  have hfit' := hfit
  unfold fits at hfit'
  have hR : RowsR (RoV c.w c.A TT) 2 xs ce.toList := h5
  obtain ⟨p1, p2⟩ := rows_pre (k := i) (by omega) hxl hR
  obtain ⟨q1, q2⟩ := rows_mid (k := j) hxl hR
  obtain ⟨X, hX⟩ : ∃ X, X = (ce.toList.drop (j * 2)).take ((xs.length - j) * 2) := ⟨_, rfl⟩
  rw [← hX] at q1 q2
  have hXl : X.length = (xs.length - j) * 2 := by rw [q2, List.length_drop]
  have hX1 : ∀ v ∈ X, v.oneCell' = true := RowsR.one q1 q2 (by decide)
  obtain ⟨W1, hW1⟩ : ∃ W1, W1 = c.w.drew.setRow b (ce.toList.take (i * 2) ++ X ++ ce.toList.drop (i * 2 + X.length)).toArray := ⟨_, rfl⟩
  have hheapd : c.w.drew.heap[b]? = some (.cells ce e (0, 0)) := h2
  have hap : ∀ ty sb sc, (j < cap' → sb = some (⟨b, j * 2, none⟩ : Addr)) → (Builtin.append_ #[39, 39] ty #[.slice (some ⟨b, 0, none⟩) i cap', .slice sb (xs.length - j) sc]).run Tryd.prog c.w.drew = .ok (.slice (some ⟨b, 0, none⟩) (i + (xs.length - j)) cap') W1 := fun ty sb sc hsb => by
    have hfc : ∀ w', (∀ b o, w'.cell? ⟨b, o, none⟩ = c.w.drew.cell? ⟨b, o, none⟩) → (Builtin.firstCells TT.size (xs.length - j) (.slice sb (xs.length - j) sc)).run Tryd.prog w' = .ok X.toArray w' := fun w' hw => by
      by_cases hlt : j < cap'
      · obtain rfl := hsb hlt
        refine firstCells_cells w' b (j * 2) _ _ _ _ _ (by rw [hXl]; rfl) fun k u hk => ?_
        rw [hw, cell_of_row _ _ _ _ _ _ hheapd]
        rw [hX, List.getElem?_take] at hk
        split at hk
        · rw [List.getElem?_drop] at hk
          simpa using hk
        · cases hk
      · have e0 : xs.length - j = 0 := by omega
        have eX : X = [] := List.length_eq_zero_iff.1 (by rw [hXl, e0])
        rw [e0, eX]
        cases sb <;> simp [Builtin.firstCells, loadCells, loadCellsFrom]
    have hfo : ∀ w', (∀ b o, w'.cell? ⟨b, o, none⟩ = c.w.drew.cell? ⟨b, o, none⟩) → (Builtin.firstCells TT.size i (.slice (some ⟨b, 0, none⟩) i cap')).run Tryd.prog w' = .ok (ce.toList.take (i * 2)).toArray w' := fun w' hw => by
      refine firstCells_cells w' b 0 _ _ _ _ _ (by rw [List.length_take, hS]; omega) fun k u hk => ?_
      rw [hw, Nat.zero_add, cell_of_row _ _ _ _ _ _ hheapd]
      rw [List.getElem?_take] at hk
      split at hk
      · simpa using hk
      · cases hk
    rcases run_append (P := Tryd.prog) (w := c.w.drew) (sT := 39) (xT := 39) (ts := #[39, 39]) (ty := ty) (us := #[.slice (some ⟨b, 0, none⟩) i cap', .slice sb (xs.length - j) sc]) rfl rfl rfl rfl und (by kernel_rfl) hok rfl (by unfold fits; omega) hfc hfo with ⟨_, h⟩ | ⟨_, _, _, _, _, h⟩
    · rw [h]
      have hadd : (⟨b, 0, none⟩ : Addr).add (i * TT.size) = ⟨b, i * 2, none⟩ := by rw [add_addr, Nat.zero_add, hS]
      have hst' := run_storeCells_at (P := Tryd.prog) b (i * 2) e X 0 ce c.w.drew hheapd (by rw [hXl]; simp at hce; omega) hX1
      simp only [Nat.add_zero] at hst'
      simp only [hadd, hst', Result.andThen_ok, hW1]
    · omega
  have hl1 : ((ce.toList.take (i * 2) ++ X ++ ce.toList.drop (i * 2 + X.length)).toArray).size = cap' * 2 := by
    simp [hXl, List.length_take]
    simp at hce
    omega
  have hheap1 : W1.heap[b]? = some (.cells (ce.toList.take (i * 2) ++ X ++ ce.toList.drop (i * 2 + X.length)).toArray e (0, 0)) := by rw [hW1]; exact setRow_heap _ _ _ _ _ _ hheapd
  obtain ⟨i0, z, hi0, hsz0, _, _, _, hz0, hzs⟩ := elemOk_sound hok
  obtain ⟨Z, hZ⟩ : ∃ Z, Z = (Builtin.zeroCells z.cells (xs.length - (i + (xs.length - j)))).toList := ⟨_, rfl⟩
  have hZl : Z.length = (j - i) * 2 := by
    have hzs' : z.cells.size = 2 := hzs
    rw [hZ]
    simp [Builtin.zeroCells, hzs']
    omega
  have hZ1 : ∀ v ∈ Z, v.oneCell' = true := by
    intro v hv
    have h := zone
    rw [hi0] at h
    simp only [Option.bind_some, hz0, Option.map_some, Option.some.injEq, List.all_eq_true] at h
    have hzs' : z.cells.size = 2 := hzs
    have hfl : (Builtin.zeroCells z.cells (xs.length - (i + (xs.length - j)))).toList = (List.replicate (xs.length - (i + (xs.length - j))) z.cells.toList).flatten := range_map_rep (by omega) _
    rw [hZ, hfl, List.mem_flatten] at hv
    obtain ⟨l, hl, hvl⟩ := hv
    rw [List.eq_of_mem_replicate hl] at hvl
    exact h v hvl
  obtain ⟨ce1, hce1⟩ : ∃ ce1, ce1 = (ce.toList.take (i * 2) ++ X ++ ce.toList.drop (i * 2 + X.length)).toArray := ⟨_, rfl⟩
  rw [← hce1] at hW1 hl1 hheap1
  obtain ⟨ce2, hce2⟩ : ∃ ce2, ce2 = (ce1.toList.take ((i + (xs.length - j)) * 2) ++ Z ++ ce1.toList.drop ((i + (xs.length - j)) * 2 + Z.length)).toArray := ⟨_, rfl⟩
  have hWZ := run_storeCells_at (P := Tryd.prog) b ((i + (xs.length - j)) * 2) e Z 0 _ W1 hheap1 (by rw [hl1, hZl]; omega) hZ1
  simp only [Nat.add_zero, ← hce2] at hWZ
  have hcl : ∀ ty sc, (Builtin.clear_ #[39] ty #[.slice (some ⟨b, (i + (xs.length - j)) * 2, none⟩) (xs.length - (i + (xs.length - j))) sc]).run Tryd.prog W1 = .ok (.tuple #[]) (W1.setRow b ce2) := fun ty sc => by
    obtain ⟨m, hm⟩ : ∃ m, xs.length - (i + (xs.length - j)) = m + 1 := ⟨j - i - 1, by omega⟩
    rw [hm] at hZ ⊢
    simp [Builtin.clear_, run_underlying und, zeroValue, typeInfo, hi0, hz0, ← hZ, hWZ]
  refine (del_some b xs.length cap' i j c.w W1 _ _ hij hj h4 (by omega) hap hcl).mono ?_
  rintro en w' ⟨rfl, rfl⟩
  have hr1 := (drew_rel hr).1
  have hx1 := (drew_rel hr).2
  have hl2 : ce2.size = cap' * 2 := by
    have hl1' : ce1.toList.length = cap' * 2 := by simpa using hl1
    rw [hce2]
    simp only [List.size_toArray, List.length_append, List.length_take, List.length_drop, hZl]
    omega
  have hrow2 : RowsR (RoV c.w.drew c.A TT) 2 (xs.take i ++ xs.drop j) ce2.toList := by
    have h := RowsR.append (l3 := Z ++ ce1.toList.drop ((i + (xs.length - j)) * 2 + Z.length)) p1 p2 q1 q2
    have e1 : ce1.toList.take ((i + (xs.length - j)) * 2) = ce.toList.take (i * 2) ++ X := by
      have hl : (ce.toList.take (i * 2) ++ X).length = (i + (xs.length - j)) * 2 := by
        rw [List.length_append, List.length_take, hXl]; omega
      rw [hce1, ← hl]
      simp only [List.take_left]
    rw [hce2]
    simp only [e1, List.append_assoc] at h ⊢
    exact h
  obtain ⟨c', g1, g2, g3, g4, g5⟩ := adopt_vec (c := { c with w := c.w.drew }) (zs := xs.take i ++ xs.drop j) hr1 (r := r) (b := b) (t := TT) (xs := xs) (ce := ce) (ce2 := ce2) (e := e) (cap := cap') hst h1 h2 hpos hA hl2 (by simp; omega) hrow2
  refine ⟨_, c', rfl, ?_, g2, hx1.trans g3, ?_, g4⟩
  · rw [g1, hW1, setRow_setRow]
  · have hlen : (xs.take i ++ xs.drop j).length = i + (xs.length - j) := by simp; omega
    rw [hlen] at g5
    exact g5
theorem delS_ok : SoundO Tryd.prog 54 delS := by
  intro w0 c args us K hr ha hs
  unfold delS at hs
  split at hs
  · next r i j =>
    split at hs
    · next xs hst =>
      obtain ⟨⟨h0, hij, hj, hfit⟩, hK⟩ := hs
      obtain ⟨i, rfl⟩ := Int.eq_ofNat_of_zero_le h0
      obtain ⟨j, rfl⟩ := Int.eq_ofNat_of_zero_le (show 0 ≤ j by omega)
      simp only [RelVs] at ha
      obtain ⟨u, us1, e1, hu, u2, us2, e2, rfl, u3, us3, e3, rfl, e4⟩ := ha
      have hus : us = #[u, .int .i64 i, .int .i64 j] := by
        apply Array.ext'
        rw [e1, e2, e3, e4]
      rw [hus]
      refine (del_sound hr hst hu (by omega) (by omega) hfit).mono ?_
      rintro en w' ⟨v, c', rfl, g1, g2, g3, g4, g5⟩
      refine ⟨v, _, c', rfl, g1, g2, g3, g4, ?_⟩
      rw [g5]
      simpa using hK
    · exact hs.elim
  · exact hs.elim
end Ins
end Go.Proofs.YtkpplfghhciacaaDoor
namespace Go.Proofs.YtkpplfghhciacaaDoor
namespace Ins
open Go.RowKit Go.Lib Go.Proofs.YtkpplfghhciacaaDoor.Eng
theorem row_of {w0 : Base} {c : Cfg} (hr : Rel w0 c) {r : Nat} {xs : List TT.den} {u : Value} (hst : c.st[r]? = some (.vec TT 0 xs)) (hv : RelV c (.vec r) u) (hne : xs.length ≠ 0) :
    ∃ b ce e cap, c.bl r = some b ∧ c.w.heap[b]? = some (.cells ce e (0, 0)) ∧ ce.size = cap * 2 ∧ xs.length ≤ cap ∧ RowsR (RoV c.w c.A TT) 2 xs ce.toList ∧ (∀ o, ¬ c.A b o) ∧ u = .slice (some ⟨b, 0, none⟩) xs.length cap := by
  simp only [RelV, hst] at hv
  obtain ⟨hpos, _, ⟨_, h2⟩ | ⟨b, ce, e, cap, h1, h2, h3, h4, h5, h6⟩⟩ := hr.obj r _ hst
  · exact absurd (by rw [h2]; rfl) hne
  rcases hv with ⟨hb, _⟩ | ⟨b', cap', hb, rfl, hrows⟩
  · rw [h1] at hb; cases hb
  rw [h1] at hb; cases hb
  obtain rfl := cap_eq h2 h3 hpos hrows
  exact ⟨b, ce, e, cap', h1, h2, h3, h4, h5, fun o => h6 o (by rw [Nat.zero_mul]; exact Nat.zero_le _), rfl⟩
theorem take_rows {w : World} {A : Nat → Nat → Prop} {ys : List TT.den} {ve : Array Value} {vcap : Nat} (h : RowsR (RoV w A TT) 2 ys ve.toList) (hs : ve.size = vcap * 2) (hl : ys.length ≤ vcap) :
    RowsR (RoV w A TT) 2 ys (ve.toList.take (ys.length * 2)) ∧ (ve.toList.take (ys.length * 2)).length = ys.length * 2 := by
  have h1 : ys.length * 2 ≤ ve.toList.length := by
    have : ve.toList.length = vcap * 2 := by simpa using hs
    omega
  exact ⟨RowsR.take h h1, by rw [List.length_take]; omega⟩
theorem first_of {w : World} {b o n len cap : Nat} {ce : Array Value} {e : TypeId} {fz : Nat × Nat} {l : List Value} (hh : w.heap[b]? = some (.cells ce e fz)) (hl : l = (ce.toList.drop o).take (n * 2)) (hn : o + n * 2 ≤ ce.size) :
    (Builtin.firstCells 2 n (.slice (some ⟨b, o, none⟩) len cap)).run Tryd.prog w = .ok l.toArray w := by
  refine firstCells_cells w b o _ _ _ _ _ (by rw [hl, List.length_take, List.length_drop, Array.length_toList]; omega) fun k u hk => ?_
  rw [cell_of_row _ _ _ _ _ _ hh]
  rw [hl, List.getElem?_take] at hk
  split at hk
  · rw [List.getElem?_drop] at hk
    simpa using hk
  · cases hk
theorem rows_all {w : World} {A : Nat → Nat → Prop} {xs ys : List TT.den} {L0 L X R : List Value} {i : Nat} (hi : i ≤ xs.length)
    (h0 : RowsR (RoV w A TT) 2 (xs.take i) L0) (l0 : L0.length = (xs.take i).length * 2) (h1 : RowsR (RoV w A TT) 2 ys L) (l1 : L.length = ys.length * 2) (h2 : RowsR (RoV w A TT) 2 (xs.drop i) X) (l2 : X.length = (xs.drop i).length * 2) :
    RowsR (RoV w A TT) 2 (xs.take i ++ ys ++ xs.drop i) (L0 ++ L ++ X ++ R) := by
  have h := RowsR.append (l3 := []) h0 l0 h1 l1
  rw [List.append_nil] at h
  exact RowsR.append h (by simp only [List.length_append, l0, l1]; omega) h2 l2
theorem big48 {k : Nat} (h : k ≤ 1073741824) : (2 * k + 1024) * 65536 ≤ 281474976710656 := by omega
set_option maxHeartbeats 1600000 in
theorem ins_sound {w0 : Base} {c : Cfg} (hr : Rel w0 c) {r q : Nat} {xs ys : List TT.den} {u v : Value} {i : Nat} (hst : c.st[r]? = some (.vec TT 0 xs)) (hsq : c.st[q]? = some (.vec TT 0 ys)) (hne : r ≠ q)
    (hu : RelV c (.vec r) u) (hv : RelV c (.vec q) v) (hi : i ≤ xs.length) (hy : ys.length ≠ 0) (hfit : fits (xs.length + ys.length)) :
    Calls Tryd.prog 64 #[u, .int .i64 i, v] c.w fun e w' => ∃ v c', e = .returned v ∧ c'.w = w' ∧ Rel w0 c' ∧ Ext c c' ∧ RelV c' (.vec c.st.length) v ∧ c'.st = c.st.set r .dead ++ [.vec TT 0 (xs.take i ++ ys ++ xs.drop i)] := by
  obtain ⟨vb, ve, te, vcap, v1, v2, v3, v4, v5, v6, rfl⟩ := row_of hr hsq hv hy
  have hfit' := hfit
  unfold fits at hfit'
  by_cases hin : i = xs.length
  · subst hin
    obtain ⟨u', c', g1, g2, g3, g4, g5⟩ := append_sound (P := Tryd.prog) (sv := .vec r) (xv := .vec q) (t := TT) (xs := xs) (ys := ys) (f := 0) (sT := 39) (xT := 39) (e := 53) (ts := #[39, 39]) (ty := 0) hr hu hv
      (by simp only [atarget, hst]; rfl) (by simp only [arows, hsq]; rfl) rfl rfl und (by kernel_rfl) hok hfit
    have hbase : ∃ base cap, u = .slice base xs.length cap ∧ xs.length ≤ cap ∧ (base = none → xs.length = 0 ∧ cap = 0) := by
      simp only [RelV, hst] at hu
      obtain ⟨hpos, _, ⟨_, h2⟩ | ⟨b, ce, e, cap, h1, h2, h3, h4, h5, h6⟩⟩ := hr.obj r _ hst
      · have : xs.length = 0 := by rw [h2]; rfl
        rcases hu with ⟨_, rfl⟩ | ⟨b', cap', hb, _⟩
        · exact ⟨none, 0, by rw [this], by omega, fun _ => ⟨this, rfl⟩⟩
        · simp_all
      · rcases hu with ⟨hb, _⟩ | ⟨b', cap', hb, rfl, hrows⟩
        · rw [h1] at hb; cases hb
        · rw [h1] at hb; cases hb
          obtain rfl := cap_eq h2 h3 hpos hrows
          exact ⟨_, _, rfl, h4, fun h => by cases h⟩
    obtain ⟨base, cap, rfl, hc, hnil⟩ := hbase
    refine (ins_end base xs.length cap vb ys.length vcap c.w c'.w u' (by omega) hc (by omega) hnil fun ty => g1).mono ?_
    rintro en w' ⟨rfl, rfl⟩
    refine ⟨_, c', rfl, rfl, g2, g3, g5, ?_⟩
    rw [g4]
    simp [killO]
  · have hlt : i < xs.length := by omega
    obtain ⟨b, ce, e, cap, h1, h2, h3, h4, h5, h6, rfl⟩ := row_of hr hst hu (by omega)
    have hvb : vb ≠ b := fun hh => by
      subst hh
      exact hne (hr.inj r q vb (live_of hst (by simp)) (live_of hsq (by simp)) h1 v1)
    have hce : ce.toList.length = cap * 2 := by simpa using h3
    have hxl : xs.length * 2 ≤ ce.toList.length := by rw [hce]; exact Nat.mul_le_mul_right _ h4
    obtain ⟨p1, p2⟩ := rows_pre (k := i) (by omega) hxl h5
    obtain ⟨q1, q2⟩ := rows_mid (k := i) hxl h5
    obtain ⟨l1, l2⟩ := take_rows v5 v3 v4
    obtain ⟨X, hX⟩ : ∃ X, X = (ce.toList.drop (i * 2)).take ((xs.length - i) * 2) := ⟨_, rfl⟩
    rw [← hX] at q1 q2
    have hXl : X.length = (xs.length - i) * 2 := by rw [q2, List.length_drop]
    have hX1 : ∀ v ∈ X, v.oneCell' = true := RowsR.one q1 q2 (by decide)
    obtain ⟨L, hL⟩ : ∃ L, L = ve.toList.take (ys.length * 2) := ⟨_, rfl⟩
    rw [← hL] at l1 l2
    have hL1 : ∀ v ∈ L, v.oneCell' = true := RowsR.one l1 l2 (by decide)
    have hr1 := (drew_rel hr).1
    have hx1 := (drew_rel hr).2
    have hlenN : (xs.take i ++ ys ++ xs.drop i).length = xs.length + ys.length := by simp; omega
    by_cases hroom : xs.length + ys.length ≤ cap
    ·
      obtain ⟨ce1, hce1⟩ : ∃ ce1, ce1 = (ce.toList.take ((i + ys.length) * 2) ++ X ++ ce.toList.drop ((i + ys.length) * 2 + X.length)).toArray := ⟨_, rfl⟩
      obtain ⟨ce2, hce2⟩ : ∃ ce2, ce2 = (ce1.toList.take (i * 2) ++ L ++ ce1.toList.drop (i * 2 + L.length)).toArray := ⟨_, rfl⟩
      have hd : c.w.drew.heap[b]? = some (.cells ce e (0, 0)) := h2
      have hs1 := run_storeCells_at (P := Tryd.prog) b ((i + ys.length) * 2) e X 0 ce c.w.drew hd (by rw [hXl]; omega) hX1
      simp only [Nat.add_zero, ← hce1] at hs1
      have hl1 : ce1.size = cap * 2 := by
        rw [hce1]
        simp only [List.size_toArray, List.length_append, List.length_take, List.length_drop, hXl]
        omega
      have hh1 : (c.w.drew.setRow b ce1).heap[b]? = some (.cells ce1 e (0, 0)) := setRow_heap _ _ _ _ _ _ hd
      have hs2 := run_storeCells_at (P := Tryd.prog) b (i * 2) e L 0 ce1 (c.w.drew.setRow b ce1) hh1 (by rw [l2]; omega) hL1
      simp only [Nat.add_zero, ← hce2, setRow_setRow] at hs2
      have hcp1 : ∀ ty dc sc, (Builtin.copy_ #[39, 39] ty #[.slice (some ⟨b, (i + ys.length) * 2, none⟩) (xs.length + ys.length - (i + ys.length)) dc, .slice (some ⟨b, i * 2, none⟩) (xs.length + ys.length - i) sc]).run Tryd.prog c.w.drew = .ok (goInt ((xs.length - i : Nat) : Int)) (c.w.drew.setRow b ce1) := fun ty dc sc =>
        run_copy (n := xs.length + ys.length - (i + ys.length)) (m := xs.length + ys.length - i) rfl (by simp only [Nat.min_def]; split <;> omega) (first_of hd hX (by omega)) hs1
      have hcp2 : ∀ ty dc, (Builtin.copy_ #[39, 39] ty #[.slice (some ⟨b, i * 2, none⟩) (xs.length + ys.length - i) dc, .slice (some ⟨vb, 0, none⟩) ys.length vcap]).run Tryd.prog (c.w.drew.setRow b ce1) = .ok (goInt ys.length) (c.w.drew.setRow b ce2) := fun ty dc =>
        run_copy (n := xs.length + ys.length - i) (m := ys.length) rfl (by simp only [Nat.min_def]; split <;> omega) (first_of ((setRow_other c.w.drew b vb ce1 hvb).trans v2) (by rw [hL]; rfl) (by omega)) hs2
      have hov : ∀ lb cb, (Extern.SlicesOverlaps.overlaps #[39, 39] #[4] #[.slice (some ⟨vb, 0, none⟩) ys.length vcap, .slice (some ⟨b, (i + ys.length) * 2, none⟩) lb cb]).run Tryd.prog c.w = .ok (.bool false) c.w := fun lb cb =>
        Lib.run_overlaps_apart c.w 39 4 53 und 2 sz53 ⟨vb, 0, none⟩ ⟨b, (i + ys.length) * 2, none⟩ ys.length vcap lb cb hvb te e ve.size ce.size (by simp [World.shape?, v2]) (by simp [World.shape?, h2]) (by omega) (by simp [World.frozen?, v2]) (by simp [World.frozen?, v2])
      refine (ins_shift b xs.length cap i vb ys.length vcap c.w _ _ _ _ hlt (by omega) hroom (by omega) hvb hov hcp1 hcp2).mono ?_
      rintro en w' ⟨rfl, rfl⟩
      have hl2 : ce2.size = cap * 2 := by
        have hl1' : ce1.toList.length = cap * 2 := by simpa using hl1
        rw [hce2]
        simp only [List.size_toArray, List.length_append, List.length_take, List.length_drop, l2]
        omega
      have e2 : ce2.toList = ce.toList.take (i * 2) ++ L ++ X ++ ce.toList.drop ((i + ys.length) * 2 + X.length) := by
        have e1 : ce1.toList.take (i * 2) = ce.toList.take (i * 2) := by
          rw [hce1]
          rw [List.append_assoc, List.take_append_of_le_length (by rw [List.length_take]; omega), List.take_take, Nat.min_eq_left (by omega)]
        have e3 : ce1.toList.drop (i * 2 + L.length) = X ++ ce.toList.drop ((i + ys.length) * 2 + X.length) := by
          have hl : (ce.toList.take ((i + ys.length) * 2)).length = i * 2 + L.length := by rw [List.length_take, l2]; omega
          rw [hce1, ← hl, List.append_assoc]
          simp only [List.drop_left]
        rw [hce2]
        simp only [e1, e3, List.append_assoc]
      have hrow2 : RowsR (RoV c.w.drew c.A TT) 2 (xs.take i ++ ys ++ xs.drop i) ce2.toList := by
        rw [e2]
        exact rows_all hi p1 p2 l1 l2 q1 q2
      obtain ⟨c', g1, g2, g3, g4, g5⟩ := adopt_vec (c := { c with w := c.w.drew }) (zs := xs.take i ++ ys ++ xs.drop i) hr1 (r := r) (b := b) (t := TT) (xs := xs) (ce := ce) (ce2 := ce2) (e := e) (cap := cap) hst h1 h2 (by decide) h6 hl2 (by rw [hlenN]; exact hroom) hrow2
      refine ⟨_, c', rfl, g1, g2, hx1.trans g3, ?_, g4⟩
      rw [hlenN] at g5
      exact g5
    ·
      obtain ⟨i0, z, hi0, hsz0, _, hb1, hb2, hz0, hzs⟩ := elemOk_sound hok
      have hsz : i0.size = 2 := hsz0
      have hzs' : z.cells.size = 2 := hzs
      obtain ⟨G, hG⟩ : ∃ G, G = grownCap c.w (xs.length + ys.length) cap 53 := ⟨_, rfl⟩
      have hGn : xs.length + ys.length ≤ G := by rw [hG]; exact grownCap_ge c.w _ _ _
      have hG63 : G ≤ 9223372036854775807 := by
        have h := grownCap_le_maxLen c.w (xs.length + ys.length) cap 53 (by unfold maxLen; omega)
        rw [← hG] at h
        unfold maxLen at h
        omega
      obtain ⟨g, hg⟩ : ∃ g, g = c.w.heap.size := ⟨_, rfl⟩
      obtain ⟨Z, hZ⟩ : ∃ Z, Z = (Builtin.zeroCells z.cells (xs.length + ys.length - i) ++ Builtin.zeroCells z.cells (G - (xs.length + ys.length))).toList := ⟨_, rfl⟩
      have hZl : Z.length = (xs.length + ys.length - i) * 2 + (G - (xs.length + ys.length)) * 2 := by
        rw [hZ]
        simp [Builtin.zeroCells, hzs']
      have hL0l : (ce.toList.take (i * 2)).length = i * 2 := by rw [List.length_take]; omega
      obtain ⟨R0, hR0⟩ : ∃ R0, R0 = (ce.toList.take (i * 2) ++ Z).toArray := ⟨_, rfl⟩
      have hR0l : R0.size = G * 2 := by
        rw [hR0]
        simp only [List.size_toArray, List.length_append, hL0l, hZl]
        omega
      have hnx := Eng.nextslicecap_le (need := xs.length + ys.length) (cap := cap) (by omega)
      have hbig : Builtin.nextslicecap (xs.length + ys.length) cap * i0.bytes ≤ 281474976710656 := by
        have h : Builtin.nextslicecap (xs.length + ys.length) cap * i0.bytes ≤ (2 * (xs.length + ys.length) + 1024) * 65536 := Nat.mul_le_mul hnx hb1
        exact Nat.le_trans h (big48 hfit')
      have h48 : (xs.length + ys.length - i) * i0.bytes ≤ 281474976710656 := by
        have h : (xs.length + ys.length - i) * i0.bytes ≤ 1073741824 * 65536 := Nat.mul_le_mul (by omega) hb1
        omega
      have hd : c.w.drew.heap[b]? = some (.cells ce e (0, 0)) := h2
      have hik : i + (xs.length + ys.length - i) = xs.length + ys.length := by omega
      obtain ⟨w1, hw1⟩ : ∃ w1, w1 = c.w.drew.alloc (.cells R0 53) := ⟨_, rfl⟩
      have hrz : ∀ ty, (Builtin.append_ #[39, 3] ty #[.slice (some ⟨b, 0, none⟩) i cap, .int .i64 ((xs.length : Int) + (ys.length : Int) - (i : Int))]).run Tryd.prog c.w = .ok (.slice (some ⟨g, 0, none⟩) (xs.length + ys.length) G) w1 := fun ty => by
        have h := Lib.run_append_grow_zeros c.w 39 3 ty 53 i0 z .i64 .i64 und (by kernel_rfl) hi0 hz0 (some ⟨b, 0, none⟩) i cap (ce.toList.take (i * 2)) (by rw [hsz]; exact first_of hd rfl (by omega)) (xs.length + ys.length - i) (by omega) (by omega) (by omega) (by omega) h48 (by rw [hik]; exact hbig)
        rw [hik, ← hG, ← hg] at h
        have e1 : (xs.length : Int) + (ys.length : Int) - (i : Int) = ((xs.length + ys.length - i : Nat) : Int) := by omega
        have e2 : (ce.toList.take (i * 2)).toArray ++ Builtin.zeroCells z.cells (xs.length + ys.length - i) ++ Builtin.zeroCells z.cells (G - (xs.length + ys.length)) = R0 := by
          rw [hR0, hZ]
          apply Array.ext'
          simp
        rw [e1, h, hw1, e2]
      have hh1 : w1.heap[g]? = some (.cells R0 53 (0, 0)) := by rw [hw1, hg]; exact heap_new c.w.drew _
      have hold : ∀ k, k < g → w1.heap[k]? = c.w.heap[k]? := fun k hk => by
        rw [hw1]
        show (c.w.heap.push _)[k]? = _
        rw [Array.getElem?_push, if_neg (by omega)]
      have hbg : b < g := by rw [hg]; exact (Array.getElem?_eq_some_iff.1 h2).1
      have hvg : vb < g := by rw [hg]; exact (Array.getElem?_eq_some_iff.1 v2).1
      obtain ⟨R1, hR1⟩ : ∃ R1, R1 = (R0.toList.take (i * 2) ++ L ++ R0.toList.drop (i * 2 + L.length)).toArray := ⟨_, rfl⟩
      obtain ⟨R2, hR2⟩ : ∃ R2, R2 = (R1.toList.take ((i + ys.length) * 2) ++ X ++ R1.toList.drop ((i + ys.length) * 2 + X.length)).toArray := ⟨_, rfl⟩
      have hR0l' : R0.toList.length = G * 2 := by simpa using hR0l
      have hR1l' : R1.toList.length = G * 2 := by
        rw [hR1]
        simp only [List.length_append, List.length_take, List.length_drop, l2]
        omega
      have hR1l : R1.size = G * 2 := by simpa using hR1l'
      have hR2l : R2.size = G * 2 := by
        rw [hR2]
        simp only [List.size_toArray, List.length_append, List.length_take, List.length_drop, hXl]
        omega
      have hs1 := run_storeCells_at (P := Tryd.prog) g (i * 2) 53 L 0 R0 w1 hh1 (by rw [l2]; omega) hL1
      simp only [Nat.add_zero, ← hR1] at hs1
      have hh2 : (w1.setRow g R1).drew.heap[g]? = some (.cells R1 53 (0, 0)) := setRow_heap _ _ _ _ _ _ hh1
      have hs2 := run_storeCells_at (P := Tryd.prog) g ((i + ys.length) * 2) 53 X 0 R1 (w1.setRow g R1).drew hh2 (by rw [hXl]; omega) hX1
      simp only [Nat.add_zero, ← hR2] at hs2
      have hcpA : ∀ ty dc, (Builtin.copy_ #[39, 39] ty #[.slice (some ⟨g, i * 2, none⟩) (xs.length + ys.length - i) dc, .slice (some ⟨vb, 0, none⟩) ys.length vcap]).run Tryd.prog w1 = .ok (goInt ys.length) (w1.setRow g R1) := fun ty dc =>
        run_copy (n := xs.length + ys.length - i) (m := ys.length) rfl (by simp only [Nat.min_def]; split <;> omega) (first_of ((hold vb hvg).trans v2) (by rw [hL]; rfl) (by omega)) hs1
      have hbb : (w1.setRow g R1).drew.heap[b]? = some (.cells ce e (0, 0)) := (setRow_other w1 g b R1 (by omega)).trans ((hold b hbg).trans h2)
      have hcpB : ∀ ty dc sc, (Builtin.copy_ #[39, 39] ty #[.slice (some ⟨g, (i + ys.length) * 2, none⟩) (xs.length + ys.length - (i + ys.length)) dc, .slice (some ⟨b, i * 2, none⟩) (xs.length - i) sc]).run Tryd.prog (w1.setRow g R1).drew = .ok (goInt ((xs.length - i : Nat) : Int)) ((w1.setRow g R1).drew.setRow g R2) := fun ty dc sc =>
        run_copy (n := xs.length + ys.length - (i + ys.length)) (m := xs.length - i) rfl (by simp only [Nat.min_def]; split <;> omega) (first_of hbb hX (by omega)) hs2
      refine (ins_grow b xs.length cap i vb ys.length vcap g G c.w _ _ _ _ _ hlt (by omega) h4 (by omega) (by omega) hGn hG63 hrz hcpA hcpB).mono ?_
      rintro en w' ⟨rfl, rfl⟩
      have hrow2 : RowsR (RoV c.w.drew.drew c.A TT) 2 (xs.take i ++ ys ++ xs.drop i) R2.toList := by
        have e0 : R0.toList.take (i * 2) = ce.toList.take (i * 2) := by
          rw [hR0]
          simp only [List.toList_toArray]
          rw [List.take_append_of_le_length (by omega), List.take_take, Nat.min_self]
        have e1 : R1.toList.take ((i + ys.length) * 2) = ce.toList.take (i * 2) ++ L := by
          have hl : (ce.toList.take (i * 2) ++ L).length = (i + ys.length) * 2 := by rw [List.length_append, hL0l, l2]; omega
          rw [hR1, e0, ← hl]
          simp only [List.take_left]
        rw [hR2, e1]
        exact rows_all hi p1 p2 l1 l2 q1 q2
      have hr2 := (drew_rel hr1).1
      have hx2 := hx1.trans (drew_rel hr1).2
      obtain ⟨c', g1, g2, g3, g4, g5⟩ := push_vec (c := { c with w := c.w.drew.drew }) (zs := xs.take i ++ ys ++ xs.drop i) hr2 r (t := TT) (ce2 := R2) (e := 53) (cap := G) (by decide) hR2l (by rw [hlenN]; exact hGn) hrow2
      refine ⟨_, c', rfl, ?_, g2, hx2.trans g3, ?_, g4⟩
      · rw [g1]
        have e1 : (w1.setRow g R1).drew.setRow g R2 = (c.w.drew.drew.alloc (.cells R0 53)).setRow c.w.drew.drew.heap.size R2 := by
          rw [hw1, hg]
          exact setRow_setRow (c.w.drew.drew.alloc (.cells R0 53)) c.w.heap.size R1 R2
        rw [e1, alloc_setRow]
      · rw [hlenN] at g5
        rw [hg]
        exact g5
theorem insS_ok : SoundO Tryd.prog 64 insS := by
  intro w0 c args us K hr ha hs
  unfold insS at hs
  split at hs
  · next r i q =>
    split at hs
    · next xs ys hst hsq =>
      cases hrq : Nat.beq r q with
      | true => rw [hrq] at hs; exact hs.elim
      | false =>
        rw [hrq] at hs
        simp only [cond_false] at hs
        obtain ⟨⟨h0, hi, hy, hfit⟩, hK⟩ := hs
        obtain ⟨i, rfl⟩ := Int.eq_ofNat_of_zero_le h0
        have hne : r ≠ q := fun h => by
          subst h
          simp at hrq
        simp only [RelVs] at ha
        obtain ⟨u, us1, e1, hu, u2, us2, e2, rfl, u3, us3, e3, hv, e4⟩ := ha
        have hus : us = #[u, .int .i64 i, u3] := by
          apply Array.ext'
          rw [e1, e2, e3, e4]
        rw [hus]
        refine (ins_sound hr hst hsq hne hu hv (by omega) hy hfit).mono ?_
        rintro en w' ⟨v, c', rfl, g1, g2, g3, g4, g5⟩
        refine ⟨v, _, c', rfl, g1, g2, g3, g4, ?_⟩
        rw [g5]
        simpa using hK
    · exact hs.elim
  · exact hs.elim
end Ins
end Go.Proofs.YtkpplfghhciacaaDoor
set_option linter.unusedVariables false
set_option linter.unusedSimpArgs false
namespace Go.Proofs.YtkpplfghhciacaaDoor
namespace La
open Go.RowKit
def SeqW {α : Type} (P : Program) (g : Nat) (lb : Array Value) (c : Addr) (encs : α → Array Value) (Kp : World → World → Prop) (S Sp : List α → Prop) (N : Nat) (w : World) : Prop :=
  ∀ (l : Nat) (J Jx : List α → World → Prop) (W : World), Below w.heap.size w W → l ≠ c.block → AbidesFrom W.heap.size J → AbidesFrom W.heap.size Jx → (∀ s X v, J s X → J s (X.setCell c v)) →
    (∀ pre x W1, J pre W1 → pre.length < N → YieldAt Fence.wide 0 P l (encs x) W1 fun e W' => (e = .returned (.bool true) ∧ J (pre ++ [x]) W' ∧ Kp W1 W') ∨ (e = .returned (.bool false) ∧ Jx (pre ++ [x]) W')) →
    J [] W → CallsIn Fence.wide 0 P g (#[.func (.yield l) #[] #[]] ++ lb) W fun e W' => (∃ v, e = .returned v) ∧ ((∃ xs, S xs ∧ J xs W') ∨ (∃ pre, Sp pre ∧ Jx pre W'))
def inState (r : Loop) (s : LoopState) (p : Option Code) : Loop := { r with state := s, pending := p }
theorem range_w {P : Program} {α : Type} {g : Operand} {ps : Array Tmp} {assign body : Code} {Q : Exit → Act → World → Prop} {a : Act} {w : World} {gf : Nat} {lb : Array Value} {c : Addr}
    (hg : a.eval g = .func (.func gf) #[] lb) (eg : ∀ args w, (callFunc gf args).run P w = .ok (.enter gf args) w) (hc : c.block < w.heap.size)
    {encs : α → Array Value} {Kp : World → World → Prop} {S Sp : List α → Prop} {N : Nat} (hseq : SeqW P gf lb c encs Kp S Sp N w)
    (hKt : ∀ {A B C : World}, Kp A B → Kp B C → Kp A C) (hKb : ∀ (W : World) (l : Nat) (o o' : Obj), w.heap.size ≤ l → W.heap[l]? = some o → o.isCells = false → o.isWalk = false → Kp W (W.putObj l o')) (hps : ∀ x, (encs x).size = ps.size)
    (I : List α → World → Prop) (Ix : Code → List α → World → Prop) (hI : OwnFrom w.heap.size I) (hIx : ∀ c, OwnFrom w.heap.size (Ix c)) (hIw : ∀ s X v, I s X → I s (X.setCell c v)) (h0 : I [] w) (a₁ : α → Act)
    (hassign : ∀ (l : Nat) (x : α) (W : World) (K : Act → World → Prop), K (a₁ x) W →
      assign.wpIn (Fence.wide.inRound l) 0 P (Exit.then K (fun _ _ _ => False)) { tmps := (ps.zip (encs x)).foldl (fun t (p, v) => t.setIfInBounds p v) a.tmps, defers := [] } W)
    (hbody : ∀ (l : Nat) (pre : List α) (x : α) (W : World), I pre W → pre.length < N → body.wpIn (Fence.wide.inRound l) 0 P (ownPostK Kp I Ix (pre ++ [x]) W) (a₁ x) W)
    (hdone : ∀ (D : Nat) (xs : List α) (W : World), w.heap.size ≤ D → S xs → I xs W → W.heap[D]? = some (.deferred (some [])) → Q .normal { a with defers := { target := .collected D, args := #[] } :: a.defers } W)
    (hstop : ∀ (D : Nat) (c : Code) (pre : List α) (W : World), w.heap.size ≤ D → Sp pre → Ix c pre W → W.heap[D]? = some (.deferred (some [])) → c.wpIn Fence.wide 1 P Q { a with defers := { target := .collected D, args := #[] } :: a.defers } W) :
    (Code.rangeFunc g ps assign body).wpIn Fence.wide 1 P Q a w := by
  refine wpIn_rangeFunc fun fn hfn => ?_
  generalize hm : w.heap.size = m at *
  let r0 : Loop := { state := .ready, pending := none, fn, tmps := a.tmps, params := ps, assign, body, defers := m }
  have hr0 : ∀ s p, inState r0 s p = { state := s, pending := p, fn, tmps := a.tmps, params := ps, assign, body, defers := m } := fun _ _ => rfl
  obtain ⟨V, hV⟩ : ∃ V, (w.alloc (.deferred (some []))).alloc (.loop r0) = V := ⟨_, rfl⟩
  have sV : V.heap.size = m + 2 := by rw [← hV]; simp [hm]
  have vL : V.heap[m + 1]? = some (.loop r0) := by
    have := World.alloc_heap_new (w.alloc (.deferred (some []))) (.loop r0)
    rw [World.size_alloc, hm] at this
    rw [← hV]; exact this
  have vD : V.heap[m]? = some (.deferred (some [])) := by
    rw [← hV, ← hm]; exact (Below.heap_alloc _ _ _ (by simp)).trans (World.alloc_heap_new w _)
  have vI : I [] V := by rw [← hV]; exact hI.alloc _ (hI.alloc _ h0)
  have vB : Below w.heap.size w V := by
    rw [← hV]; exact ((Below.refl _ w).alloc (Nat.le_refl _) _).alloc (by simp) _
  refine ⟨m + 1, [{ target := .collected m, args := #[] }], V, { target := .fn (.func gf) lb, args := #[.func (.yield (m + 1)) #[] #[]] }, V, gf, #[.func (.yield (m + 1)) #[] #[]] ++ lb, V, ?_, ?_, ?_, ?_, fun h => by simp [Fence.wide] at h, ?_⟩
  · rw [← hV, ← hm]; subst hm; exact run_enterLoop_outer _ _ _ _ _
  · simp only [resolve, hg]
    simp [go_sem]
  · intro f' _; trivial
  · simp [invoke, go_sem, eg]
  let B : Loop → World → Prop := fun r W => W.heap[m + 1]? = some (.loop r) ∧ W.heap[m]? = some (.deferred (some []))
  have bGrow : ∀ {r : Loop} {X Y : World} {row : Option Nat}, B r X → X.grownBy Y row → (∀ k, row = some k → V.heap.size ≤ k ∧ ∃ o : Obj, X.heap[k]? = some o ∧ o.isWalk = true) → B r Y :=
    fun h hgr hr => ⟨(grownBy_keeps hgr (fun k e => (hr k e).2) h.1 rfl).trans h.1, (grownBy_keeps hgr (fun k e => (hr k e).2) h.2 rfl).trans h.2⟩
  have own : ∀ {X : World} {row : Option Nat}, (∀ k, row = some k → V.heap.size ≤ k ∧ ∃ o : Obj, X.heap[k]? = some o ∧ o.isWalk = true) → ∀ k, row = some k → m ≤ k ∧ ∃ o : Obj, X.heap[k]? = some o ∧ o.isCells = false :=
    fun hr k e => by obtain ⟨h1, o, h2, h3⟩ := hr k e; exact ⟨by omega, o, h2, Obj.not_cells_of_walk h3⟩
  refine (hseq (m + 1) (fun pre W => I pre W ∧ B r0 W) (fun pre W => ∃ k, Ix k pre W ∧ B (inState r0 .done (some k)) W) V (hm ▸ vB) (by omega)
    (fun s X Y row h hgr hr => ⟨hI s X Y row h.1 hgr (own hr), bGrow h.2 hgr hr⟩)
    (fun s X Y row h hgr hr => by
      obtain ⟨k, h1, h2⟩ := h
      exact ⟨k, hIx k s X Y row h1 hgr (own hr), bGrow h2 hgr hr⟩)
    (fun s X v h => ⟨hIw s X v h.1, (Below.heap_setCell X c v _ (by omega)).trans h.2.1, (Below.heap_setCell X c v _ (by omega)).trans h.2.2⟩) ?_ ⟨vI, vL, vD⟩).mono ?_
  · rintro pre x W ⟨hi, hl, hd⟩ hlen
    have hlt : m + 1 < W.heap.size := (Array.getElem?_eq_some_iff.1 hl).1
    refine ⟨fn, _, assign, body, run_yield (P := P) (args := encs x) hl (hps x), roundIn_of_wpIn hfn (hassign _ x W _ ⟨_, run_beginRound hl rfl, ?_⟩)⟩
    generalize hX : W.putObj (m + 1) (.loop { r0 with state := .busy }) = X
    have xL : X.heap[m + 1]? = some (.loop { r0 with state := .busy }) := by rw [← hX]; exact World.putObj_heap_same hlt
    have xD : X.heap[m]? = some (.deferred (some [])) := by rw [← hX]; exact (World.putObj_heap_other (by omega)).trans hd
    have xK : Kp W X := by rw [← hX]; exact hKb _ _ _ _ (by omega) hl rfl rfl
    have xI : I pre X := by rw [← hX]; exact hI.putObj _ hi (by omega) hl rfl
    refine wpIn_mono (hbody _ pre x X xI hlen) ?_
    have leave : ∀ (j : Option Code) (Y : World), KeepsOthers X Y →
        (Instr.endRound (m + 1) j).run P Y = .ok (.bool j.isNone) (Y.putObj (m + 1) (.loop (inState r0 (if j.isNone then .ready else .done) j))) ∧
        Y.heap[m + 1]? = some (.loop { r0 with state := .busy }) ∧ B (inState r0 (if j.isNone then .ready else .done) j) (Y.putObj (m + 1) (.loop (inState r0 (if j.isNone then .ready else .done) j))) := fun j Y hk => by
      have yL := hk.same _ _ xL rfl
      have e1 := run_endRound (P := P) j yL
      exact ⟨e1, yL, World.putObj_heap_same (Array.getElem?_eq_some_iff.1 yL).1, (World.putObj_heap_other (by omega)).trans (hk.same _ _ xD rfl)⟩
    have out : ∀ (j : Code) (Y : World), KeepsOthers X Y ∧ Ix j (pre ++ [x]) Y → ∃ v W2, (Instr.endRound (m + 1) (some j)).run P Y = .ok v W2 ∧ (((Ending.returned v) = .returned (.bool true) ∧ (I (pre ++ [x]) W2 ∧ B r0 W2) ∧ Kp W W2) ∨
        ((Ending.returned v) = .returned (.bool false) ∧ ∃ k, Ix k (pre ++ [x]) W2 ∧ B (inState r0 .done (some k)) W2)) := fun j Y h => by
      obtain ⟨e1, yL, e2⟩ := leave (some j) Y h.1
      exact ⟨_, _, e1, .inr ⟨rfl, j, (hIx j).putObj _ h.2 (by omega) yL rfl, e2⟩⟩
    rintro e a3 Y hp
    cases e with
    | normal =>
      obtain ⟨hk, hkp, hi3⟩ := hp
      obtain ⟨e1, yL, e2⟩ := leave none Y hk
      exact ⟨_, _, e1, .inl ⟨rfl, ⟨hI.putObj _ hi3 (by omega) yL rfl, e2⟩, hKt (hKt xK hkp) (hKb _ _ _ _ (by omega) yL rfl rfl)⟩⟩
    | ret => exact out .ret Y hp
    | exit id => exact out (.exit id) Y hp
    | goto t => exact out (.goto t) Y hp
    | panic ch => exact hp.elim
    | outgrown => exact hp.elim
  · rintro e W2 ⟨⟨v, rfl⟩, (⟨xs, hS, hi, hl, hd⟩ | ⟨pre, hSp, k, hi, hl, hd⟩)⟩
    · exact ⟨none, _, run_endLoop (P := P) hl (by simp [r0]), hdone m xs _ (Nat.le_refl _) hS (hI.putObj _ hi (by omega) hl rfl) ((World.putObj_heap_other (by omega)).trans hd)⟩
    · exact ⟨some k, _, run_endLoop (P := P) hl (by simp [inState]), hstop m k pre _ (Nat.le_refl _) hSp ((hIx k).putObj _ hi (by omega) hl rfl) ((World.putObj_heap_other (by omega)).trans hd)⟩
end La
end Go.Proofs.YtkpplfghhciacaaDoor
set_option linter.unusedVariables false
set_option linter.unusedSimpArgs false
namespace Go.Proofs
open Go.Shelf
shelf_lay Lays.n143 Nm 143 at Tryd as Tryd.lays143
shelf_lay Lays.n106 Nm 106 at Tryd as Tryd.lays106
shelf_lay Lays.n137 Nm 137 at Tryd as Tryd.lays137
end Go.Proofs
namespace Go.Proofs.YtkpplfghhciacaaDoor
namespace La
open Go.RowKit Go.Shelf
attribute [local go_sem] Oper.semAt_some
theorem wide_fn (f : FuncId) : Fence.wide.fn f = True := rfl
theorem wide_depth : Fence.wide.depth = none := rfl
theorem wide_in_fn (l : Nat) (f : FuncId) : (Fence.wide.inRound l).fn f = True := rfl
theorem wide_in_depth (l : Nat) : (Fence.wide.inRound l).depth = none := rfl
attribute [local go_sem] wide_fn wide_depth wide_in_fn wide_in_depth
abbrev sl (s : ByteArray) : Int := Lib.indexByte s.data.toList 47
theorem sl_lt (s : ByteArray) : sl s < s.size := by
  have : ∀ l : List UInt8, Lib.indexByte l 47 < (l.length : Int) := by
    intro l
    induction l with
    | nil => decide
    | cons b l ih =>
      unfold Lib.indexByte
      split
      · simp only [List.length_cons]; omega
      · split
        · simp only [List.length_cons]; omega
        · simp only [List.length_cons]; omega
  have h := this s.data.toList
  simpa using h
theorem sl_ge (s : ByteArray) : -1 ≤ sl s := Lib.indexByte_ge _ _
def pts : Nat → ByteArray → List ByteArray
  | 0, s => [s]
  | n + 1, s => if sl s < 0 then [s] else s.extract 0 (sl s).toNat :: pts n (s.extract ((sl s).toNat + 1) s.size)
abbrev parts (s : ByteArray) : List ByteArray := pts s.size s
structure Kp (S : Nat → Prop) (W W' : World) : Prop where
  size : W.heap.size ≤ W'.heap.size
  same : ∀ b, S b → W'.heap[b]? = W.heap[b]?
theorem Kp.trans {S : Nat → Prop} {X Y Z : World} (h : Kp S X Y) (k : Kp S Y Z) : Kp S X Z := ⟨Nat.le_trans h.size k.size, fun b hb => (k.same b hb).trans (h.same b hb)⟩
structure Mem (m : Nat) (s : ByteArray) (W : World) : Prop where
  s : W.heap[m]? = some (.cells #[.string s] 9 (0, 0))
  p : W.heap[m + 1]? = some (.cells #[.string ⟨#[47]⟩] 9 (0, 0))
  v : W.heap[m + 2]? = some (.cells #[.int .i64 0] 3 (0, 0))
def Sk (m b : Nat) : Prop := b = m ∨ b = m + 1 ∨ b = m + 2
theorem Mem.keep {m : Nat} {s : ByteArray} {W W' : World} (h : Mem m s W) (k : Kp (Sk m) W W') : Mem m s W' :=
  ⟨(k.same m (.inl rfl)).trans h.s, (k.same (m + 1) (.inr (.inl rfl))).trans h.p, (k.same (m + 2) (.inr (.inr rfl))).trans h.v⟩
theorem one_cell {W : World} {b : Nat} {x : Value} {t : TypeId} (h : W.heap[b]? = some (.cells #[x] t (0, 0))) : W.cell? ⟨b, 0, none⟩ = some x ∧ W.frozen? ⟨b, 0, none⟩ = false := by
  simp [World.cell?, World.frozen?, h]
theorem set_one {W : World} {b : Nat} {x : Value} {t : TypeId} (h : W.heap[b]? = some (.cells #[x] t (0, 0))) (v : Value) : (W.setCell ⟨b, 0, none⟩ v).heap[b]? = some (.cells #[v] t (0, 0)) :=
  Boxed.set v h
theorem Mem.set {m : Nat} {s : ByteArray} {W : World} (h : Mem m s W) (s' : ByteArray) : Mem m s' (W.setCell ⟨m, 0, none⟩ (.string s')) :=
  ⟨set_one h.s _, (Below.heap_setCell W ⟨m, 0, none⟩ _ (m + 1) (by simp)).trans h.p, (Below.heap_setCell W ⟨m, 0, none⟩ _ (m + 2) (by simp)).trans h.v⟩
def mS (m : Nat) (W : World) : Nat := match W.cell? ⟨m, 0, none⟩ with
  | some (.string s) => s.size
  | _ => 0
theorem mS_of {m : Nat} {W : World} {s : ByteArray} (h : W.cell? ⟨m, 0, none⟩ = some (.string s)) : mS m W = s.size := by
  unfold mS; rw [h]
theorem index_calls (s : ByteArray) (w : World) : Calls Tryd.prog 76 #[.string s, .string ⟨#[47]⟩] w fun e w' => e = .returned (.int .i64 (sl s)) ∧ w' = w := Any.strings_Index_one Tryd.lays143 s 47 w
set_option maxRecDepth 100000 in
set_option maxHeartbeats 4000000 in
theorem it_in (l m n0 : Nat) (path : ByteArray) (hps : path.size ≤ 60) (J Jx : List ByteArray → World → Prop) (hJ : AbidesFrom n0 J) (hJx : AbidesFrom n0 Jx) (hJw : ∀ s X v, J s X → J s (X.setCell ⟨m, 0, none⟩ v))
    (hY : ∀ pre x W, J pre W → pre.length < (parts path).length → x ∈ parts path → YieldAt Fence.wide 0 Tryd.prog l #[.string x] W fun e W' =>
      (e = .returned (.bool true) ∧ J (pre ++ [x]) W' ∧ Kp (Sk m) W W') ∨ (e = .returned (.bool false) ∧ Jx (pre ++ [x]) W'))
    (W : World) (hM : Mem m path W) (hj : J [] W) :
    CallsIn Fence.wide 0 Tryd.prog 74 #[.func (.yield l) #[] #[], .pointer (some ⟨m + 1, 0, none⟩), .pointer (some ⟨m, 0, none⟩), .pointer (some ⟨m + 2, 0, none⟩)] W fun e W' => (∃ v, e = .returned v) ∧
      ((∃ ys, ys = parts path ∧ J ys W') ∨ (∃ pre, pre <+: parts path ∧ Jx pre W')) := by
  refine callsIn_of_wp Tryd.func74 rfl trivial ?_ rfl
  simp only [Tryd.ntmps74, List.size_toArray, List.length_cons, List.length_nil, Nat.reduceAdd, Nat.reduceSub, Array.replicate_succ, Array.replicate_zero, List.push_toArray, List.append_toArray, List.nil_append, List.cons_append]
  obtain ⟨c1, -⟩ := one_cell hM.s
  obtain ⟨c2, -⟩ := one_cell hM.p
  obtain ⟨c3, -⟩ := one_cell hM.v
  gi_wp2
  gi_loopw [7] (fun _ wr => ∃ (pre : List ByteArray) (n : Nat) (s : ByteArray), parts path = pre ++ pts n s ∧ s.size ≤ n ∧ s.size ≤ 60 ∧ Mem m s wr ∧ J pre wr)
    (fun _ wr => mS m wr)
  case atStart => exact ⟨[], path.size, path, rfl, Nat.le_refl _, hps, hM, hj⟩
  case round =>
    obtain ⟨pre, n, s, hx, hn, h6, hMr, hJr⟩ := hrel
    obtain ⟨d1, d4⟩ := one_cell hMr.s
    obtain ⟨d2, -⟩ := one_cell hMr.p
    obtain ⟨d3, -⟩ := one_cell hMr.v
    have hlt := sl_lt s
    have hge := sl_ge s
    by_cases hneg : sl s < 0
    · have hst : pts n s = [s] := by
        cases n with
        | zero => rfl
        | succ n => simp only [pts, if_pos hneg]
      rw [hst] at hx
      obtain ⟨fn, tmps, assign, body, hy, hR⟩ := hY pre s wr hJr (by rw [hx]; simp) (by rw [hx]; simp)
      gi_wp2_with (gi_at_call 76; refine (CallsIn.mono (callsIn_wide.2 (index_calls s _)) ?_); rintro e W3 ⟨rfl, rfl⟩)
      refine hR.mono ?_
      rintro e W8 (⟨rfl, hJ8, hk8⟩ | ⟨rfl, hJx8⟩)
      · gi_wp2
        go_end0
        exact ⟨⟨_, rfl⟩, .inl ⟨pre ++ [s], hx.symm, hJ8⟩⟩
      · gi_wp2
        go_end0
        exact ⟨⟨_, rfl⟩, .inr ⟨pre ++ [s], by rw [hx]; exact List.prefix_refl _, hJx8⟩⟩
    · cases n with
      | zero => omega
      | succ n =>
        have hst : pts (n + 1) s = s.extract 0 (sl s).toNat :: pts n (s.extract ((sl s).toNat + 1) s.size) := by
          simp only [pts, if_neg hneg]
        rw [hst] at hx
        obtain ⟨fn, tmps, assign, body, hy, hR⟩ := hY pre (s.extract 0 (sl s).toNat) wr hJr (by rw [hx]; simp) (by rw [hx]; simp)
        gi_wp2_with (gi_at_call 76; refine (CallsIn.mono (callsIn_wide.2 (index_calls s _)) ?_); rintro e W3 ⟨rfl, rfl⟩)
        refine hR.mono ?_
        rintro e W8 (⟨rfl, hJ8, hk8⟩ | ⟨rfl, hJx8⟩)
        · have hM8 := hMr.keep hk8
          obtain ⟨k1, k4⟩ := one_cell hM8.s
          obtain ⟨k2, -⟩ := one_cell hM8.p
          obtain ⟨k3, -⟩ := one_cell hM8.v
          gi_wp2
          have e1 : (sl s + 1).toNat = (sl s).toNat + 1 := by omega
          rw [e1]
          have hM9 := hM8.set (s.extract ((sl s).toNat + 1) s.size)
          have e2 : (s.extract ((sl s).toNat + 1) s.size).size = s.size - ((sl s).toNat + 1) := by simp
          refine ⟨⟨pre ++ [s.extract 0 (sl s).toNat], n, _, by rw [hx]; simp, by omega, by omega, hM9, hJw _ _ _ hJ8⟩, ?_⟩
          rw [mS_of (one_cell hM9.s).1, mS_of d1]
          omega
        · gi_wp2
          refine bodyPost_ret (results_none rfl _ _ _) rfl ?_
          refine ⟨⟨_, rfl⟩, .inr ⟨pre ++ [s.extract 0 (sl s).toNat], ?_, hJx8⟩⟩
          rw [hx]
          exact ⟨_, by rw [List.append_assoc]; rfl⟩
abbrev Pt (path : ByteArray) := { x : ByteArray // x ∈ parts path }
theorem it_seq {m : Nat} {path : ByteArray} (hps : path.size ≤ 60) {w : World} (hM : Mem m path w) :
    SeqW Tryd.prog 74 #[.pointer (some ⟨m + 1, 0, none⟩), .pointer (some ⟨m, 0, none⟩), .pointer (some ⟨m + 2, 0, none⟩)] ⟨m, 0, none⟩ (fun x : Pt path => #[Value.string x.1]) (Kp (Sk m))
      (fun ys => ys.map Subtype.val = parts path) (fun pre => pre.map Subtype.val <+: parts path) (parts path).length w := by
  intro l J Jx W hW hl hJ hJx hJw hY hj
  have hlt : m + 2 < w.heap.size := (Array.getElem?_eq_some_iff.1 hM.v).1
  have hMW : Mem m path W := hM.keep ⟨hW.size, fun b hb => hW.block b (by rcases hb with rfl | rfl | rfl <;> omega)⟩
  refine (it_in l m W.heap.size path hps (fun pre W => ∃ p : List (Pt path), p.map Subtype.val = pre ∧ J p W) (fun pre W => ∃ p : List (Pt path), p.map Subtype.val = pre ∧ Jx p W)
    (fun s X Y row hs hg hr => ?_) (fun s X Y row hs hg hr => ?_) (fun s X v hs => ?_) (fun pre x W1 hJ1 hl hx => ?_) W hMW ⟨[], rfl, hj⟩).mono ?_
  · obtain ⟨p, e, h⟩ := hs
    exact ⟨p, e, hJ p X Y row h hg hr⟩
  · obtain ⟨p, e, h⟩ := hs
    exact ⟨p, e, hJx p X Y row h hg hr⟩
  · obtain ⟨p, e, h⟩ := hs
    exact ⟨p, e, hJw p X v h⟩
  · obtain ⟨p, rfl, h⟩ := hJ1
    obtain ⟨fn, tmps, assign, body, hy, hR⟩ := hY p ⟨x, hx⟩ W1 h (by simpa using hl)
    refine ⟨fn, tmps, assign, body, hy, hR.mono ?_⟩
    rintro e W' (⟨g1, g2, g3⟩ | ⟨g1, g2⟩)
    · exact .inl ⟨g1, ⟨p ++ [⟨x, hx⟩], by simp, g2⟩, g3⟩
    · exact .inr ⟨g1, ⟨p ++ [⟨x, hx⟩], by simp, g2⟩⟩
  · rintro e W' ⟨hv, ⟨ys, hys, p, hp, h⟩ | ⟨pre, hpre, p, hp, h⟩⟩
    · exact ⟨hv, .inl ⟨p, hp.trans hys, h⟩⟩
    · exact ⟨hv, .inr ⟨p, by show p.map Subtype.val <+: _; rw [hp]; exact hpre, h⟩⟩
set_option maxRecDepth 100000 in
theorem splitSeq_calls (s : ByteArray) (w : World) : Calls Tryd.prog 68 #[.string s, .string ⟨#[47]⟩, .int .i64 0] w fun e w' =>
    e = .returned (.func (.func 74) #[] #[.pointer (some ⟨w.heap.size + 1, 0, none⟩), .pointer (some ⟨w.heap.size, 0, none⟩), .pointer (some ⟨w.heap.size + 2, 0, none⟩)]) ∧
      w' = ((w.alloc (.cells #[.string s] 9)).alloc (.cells #[.string ⟨#[47]⟩] 9)).alloc (.cells #[.int .i64 0] 3) := by
  go_enter Tryd.func68, Tryd.ntmps68
  go_wp2
  go_ret
  exact ⟨rfl, rfl⟩
set_option maxRecDepth 100000 in
theorem SplitSeq_calls (s : ByteArray) (w : World) : Calls Tryd.prog 59 #[.string s, .string ⟨#[47]⟩] w fun e w' =>
    e = .returned (.func (.func 74) #[] #[.pointer (some ⟨w.heap.size + 1, 0, none⟩), .pointer (some ⟨w.heap.size, 0, none⟩), .pointer (some ⟨w.heap.size + 2, 0, none⟩)]) ∧
      w' = ((w.alloc (.cells #[.string s] 9)).alloc (.cells #[.string ⟨#[47]⟩] 9)).alloc (.cells #[.int .i64 0] 3) := by
  go_enter Tryd.func59, Tryd.ntmps59
  go_wp2_with (go_at_call 68; refine (splitSeq_calls _ _).mono ?_; rintro e w' ⟨rfl, rfl⟩)
  go_ret
  exact ⟨rfl, rfl⟩
def letter (c : Int) : Bool := decide (97 ≤ c ∧ c ≤ 122 ∨ 65 ≤ c ∧ c ≤ 90 ∨ 48 ≤ c ∧ c ≤ 57 ∨ c = 46 ∨ c = 95 ∨ c = 45)
set_option maxRecDepth 100000 in
set_option maxHeartbeats 4000000 in
theorem letter_calls (c : Int) (w : World) : Calls Tryd.prog 60 #[.int .u8 c] w fun e w' => e = .returned (.bool (letter c)) ∧ w' = w := by
  go_enter Tryd.func60, Tryd.ntmps60
  go_wp2
  all_goals (try go_ret)
  all_goals refine ⟨congrArg (fun b => Ending.returned (Value.bool b)) ?_, rfl⟩
  all_goals first
    | rfl
    | (unfold letter; rw [Bool.eq_iff_iff]; simp only [Bool.or_eq_true, decide_eq_true_eq, beq_iff_eq]; omega)
    | (unfold letter; symm; rw [decide_eq_true_eq]; omega)
    | (unfold letter; symm; rw [decide_eq_false_iff_not]; omega)
    | (unfold letter; simp; omega)
end La
end Go.Proofs.YtkpplfghhciacaaDoor
set_option linter.unusedVariables false
set_option linter.unusedSimpArgs false
namespace Go.Proofs.YtkpplfghhciacaaDoor
namespace La
open Go.RowKit Go.Shelf Eng
attribute [local go_sem] Oper.semAt_some wide_fn wide_depth wide_in_fn wide_in_depth
def bad (p : ByteArray) : Bool := p.toList.isEmpty || p.toList == [46] || p.toList == [46, 46]
def lets (p : ByteArray) : Bool := p.data.toList.all fun b => letter b.toNat
def okp (p : ByteArray) : Bool := !bad p && lets p
def mI (n : Nat) : Value → Nat
  | .int _ i => n - i.toNat
  | _ => 0
theorem pts_le {c : Nat} : ∀ (n : Nat) (s : ByteArray), s.size ≤ c → ∀ x ∈ pts n s, x.size ≤ c
  | 0, s, h, x, hx => by simp only [pts, List.mem_singleton] at hx; rw [hx]; exact h
  | n + 1, s, h, x, hx => by
    simp only [pts] at hx
    split at hx
    · simp only [List.mem_singleton] at hx; rw [hx]; exact h
    · rcases List.mem_cons.1 hx with rfl | hx
      · simp; omega
      · exact pts_le n _ (by simp; omega) x hx
theorem parts_le {path x : ByteArray} (hp : path.size ≤ 60) (hx : x ∈ parts path) : x.size ≤ 60 := pts_le _ _ hp x hx
def vp_R (path : ByteArray) : Bool := decide (path.size ≤ 60) && (parts path).all okp
theorem heap_old (w : World) (o : Obj) {k : Nat} {x : Obj} (h : w.heap[k]? = some x) : (w.alloc o).heap[k]? = some x :=
  (Below.heap_alloc w o k (Array.getElem?_eq_some_iff.1 h).1).trans h
theorem OwnFrom.const {β : Type} {B : Nat} (P : β → Prop) : OwnFrom B (fun s _ => P s) := fun _ _ _ _ h _ _ => h
theorem OwnFrom.cell {β : Type} (B n : Nat) (v : Value) (t : TypeId) : OwnFrom B (fun (_ : β) W => W.heap[n]? = some (.cells #[v] t (0, 0))) := by
  rintro s W W' row h hg hr
  exact (grownBy_keeps_cells hg (fun r e => (hr r e).2) h rfl).trans h
theorem below_put {B : Nat} {a W : World} (h : Below B a W) {D : Nat} {o : Obj} (o' : Obj) (hD : W.heap[D]? = some o) (hBD : B ≤ D) : Below B a (W.putObj D o') :=
  h.grown (grownBy_putObj' W D o') (by have := (Array.getElem?_eq_some_iff.1 hD).1; omega) (fun k e => by cases e; exact hBD)
set_option maxRecDepth 100000 in
set_option maxHeartbeats 4000000 in
theorem vp_calls (path : ByteArray) (w : World) : Calls Tryd.prog 42 #[.string path] w fun e w' => e = .returned (.bool (vp_R path)) ∧ Below w.heap.size w w' := by
  refine (callsIn_wide (n := 1)).1 (callsIn_of_wp_marks Tryd.func42 rfl trivial ?_ rfl)
  simp only [Tryd.ntmps42, List.size_toArray, List.length_cons, List.length_nil, Nat.reduceAdd, Nat.reduceSub, Array.replicate_succ, Array.replicate_zero, List.push_toArray, List.append_toArray, List.nil_append, List.cons_append]
  by_cases hsz : path.size ≤ 60
  · have hR : vp_R path = (parts path).all okp := by unfold vp_R; rw [decide_eq_true hsz]; rfl
    rw [hR]
    gi_wp2_with (gi_at_call 59; refine CallsIn.mono (callsIn_wide.2 (SplitSeq_calls _ _)) ?_; rintro e w' ⟨rfl, rfl⟩)
    generalize hW : (((w.alloc (Obj.cells #[Value.bool false] 4)).alloc (Obj.cells #[Value.string path] 9)).alloc (Obj.cells #[Value.string ⟨#[47]⟩] 9)).alloc (Obj.cells #[Value.int .i64 0] 3) = W
    have sW : W.heap.size = w.heap.size + 4 := by rw [← hW]; simp
    have hB : Below w.heap.size w W := by rw [← hW]; exact ((((Below.refl _ w).alloc (Nat.le_refl _) _).alloc (by simp) _).alloc (by simp; omega) _).alloc (by simp; omega) _
    have b0 : W.heap[w.heap.size]? = some (.cells #[.bool false] 4 (0, 0)) := by rw [← hW]; exact heap_old _ _ (heap_old _ _ (heap_old _ _ (World.alloc_heap_new w _)))
    have b1 : W.heap[w.heap.size + 1]? = some (.cells #[.string path] 9 (0, 0)) := by
      rw [← hW]; refine heap_old _ _ (heap_old _ _ ?_)
      have := World.alloc_heap_new (w.alloc (Obj.cells #[Value.bool false] 4)) (Obj.cells #[Value.string path] 9)
      rwa [World.size_alloc] at this
    have b2 : W.heap[w.heap.size + 1 + 1]? = some (.cells #[.string ⟨#[47]⟩] 9 (0, 0)) := by
      rw [← hW]; refine heap_old _ _ ?_
      have := World.alloc_heap_new ((w.alloc (Obj.cells #[Value.bool false] 4)).alloc (Obj.cells #[Value.string path] 9)) (Obj.cells #[Value.string ⟨#[47]⟩] 9)
      rwa [World.size_alloc, World.size_alloc] at this
    have b3 : W.heap[w.heap.size + 1 + 2]? = some (.cells #[.int .i64 0] 3 (0, 0)) := by
      rw [← hW]
      have := World.alloc_heap_new (((w.alloc (Obj.cells #[Value.bool false] 4)).alloc (Obj.cells #[Value.string path] 9)).alloc (Obj.cells #[Value.string ⟨#[47]⟩] 9)) (Obj.cells #[Value.int .i64 0] 3)
      rwa [World.size_alloc, World.size_alloc, World.size_alloc] at this
    have hM : Mem (w.heap.size + 1) path W := ⟨b1, b2, b3⟩
    refine range_w (c := ⟨w.heap.size + 1, 0, none⟩) (by rfl) (enters_of Tryd.func74 (by kernel_rfl) rfl) (by show w.heap.size + 1 < W.heap.size; omega) (it_seq hsz hM) Kp.trans (fun X l o o' hl ho _ _ => ?keep) (fun x => rfl)
      (fun pre X => (pre.all fun x => okp x.1) = true ∧ X.heap[w.heap.size]? = some (.cells #[.bool false] 4 (0, 0)) ∧ Below w.heap.size w X)
      (fun k pre X => (k = .ret ∧ (pre.all fun x => okp x.1) = false) ∧ X.heap[w.heap.size]? = some (.cells #[.bool false] 4 (0, 0)) ∧ Below w.heap.size w X)
      (OwnFrom.and (OwnFrom.const _) (OwnFrom.and (OwnFrom.cell _ _ _ _) (ownFrom_below (Nat.le_refl _) (by omega))))
      (fun k => OwnFrom.and (OwnFrom.const _) (OwnFrom.and (OwnFrom.cell _ _ _ _) (ownFrom_below (Nat.le_refl _) (by omega))))
      (fun s X v h => ⟨h.1, (Below.heap_setCell X ⟨w.heap.size + 1, 0, none⟩ v _ (by simp)).trans h.2.1, h.2.2.setCell (p := ⟨w.heap.size + 1, 0, none⟩) (by simp) v⟩)
      ⟨rfl, b0, hB⟩ ?act ?assign ?body ?done ?stop
    case keep =>
      refine ⟨by simp, fun b hb => World.putObj_heap_other (fun e => ?_)⟩
      subst e
      rcases hb with h | h | h <;> omega
    case assign =>
      intro l x X K hK
      gi_wp2
      exact hK
    case body =>
      rintro l pre ⟨x, hx⟩ X ⟨h1, h2, h3⟩ _
      obtain ⟨d0, d1⟩ := one_cell h2
      have hret : okp x = false → ∀ a', ownPostK (Kp (Sk (w.heap.size + 1))) (fun (pre : List (Pt path)) X => (pre.all fun x => okp x.1) = true ∧ X.heap[w.heap.size]? = some (.cells #[.bool false] 4 (0, 0)) ∧ Below w.heap.size w X)
          (fun k pre X => (k = .ret ∧ (pre.all fun x => okp x.1) = false) ∧ X.heap[w.heap.size]? = some (.cells #[.bool false] 4 (0, 0)) ∧ Below w.heap.size w X) (pre ++ [⟨x, hx⟩]) X .ret a' (X.setCell ⟨w.heap.size, 0, none⟩ (.bool false)) :=
        fun ho a' => ⟨KeepsOthers.setCell _ _ _, ⟨rfl, by simp [ho]⟩, set_one h2 _, h3.setCell (Nat.le_refl _) _⟩
      by_cases hb : bad x = true
      · gi_wp2
        all_goals first
          | exact hret (by unfold okp; rw [hb]; rfl) _
          | (exfalso; revert hb; simp_all [bad])
      · have hb' : bad x = false := by simpa using hb
        have hx3 : x.toList.isEmpty = false ∧ (x.toList == [46]) = false ∧ (x.toList == [46, 46]) = false := by
          unfold bad at hb'; simpa only [Bool.or_eq_false_iff, and_assoc] using hb'
        obtain ⟨q1, q2, q3⟩ := hx3
        gi_wp2
        gi_loopw [23] (fun p wr => ∃ k : Nat, p = .int .i64 k ∧ k ≤ x.size ∧ wr = X ∧ ((x.data.toList.take k).all fun b => letter b.toNat) = true) (fun p _ => mI x.size p)
        case atStart => exact ⟨0, rfl, Nat.zero_le _, rfl, rfl⟩
        case round =>
          obtain ⟨k, rfl, hk, rfl, hall⟩ := hrel
          have hxs : x.size ≤ 60 := parts_le hsz hx
          by_cases hlt : k < x.size
          · have hlt2 : k < x.data.toList.length := by simpa using hlt
            have hget : x.data.toList[k] = x[k] := by simp; rfl
            cases hl : letter (x[k].toNat : Int) with
            | true =>
              gi_wp2_with (gi_at_call 60; refine CallsIn.mono (callsIn_wide.2 (letter_calls _ _)) ?_; rintro e w' ⟨rfl, rfl⟩)
              refine ⟨⟨k + 1, by simp, hlt, trivial, ?_⟩, ?_⟩
              · rw [List.take_succ_eq_append_getElem hlt2, List.all_append, hall, hget]
                simp [hl]
              · show x.size - (k + 1) < x.size - k
                omega
            | false =>
              have ho : okp x = false := by
                unfold okp lets
                rw [hb', Bool.not_false, Bool.true_and, List.all_eq_false]
                exact ⟨x[k], hget ▸ List.getElem_mem hlt2, by simp [hl]⟩
              gi_wp2_with (gi_at_call 60; refine CallsIn.mono (callsIn_wide.2 (letter_calls _ _)) ?_; rintro e w' ⟨rfl, rfl⟩)
              all_goals first
                | exact hret ho _
                | exact absurd hl (by simp_all)
          · gi_wp2
            obtain rfl : k = x.size := by omega
            have ho : okp x = true := by
              unfold okp lets
              rw [hb', Bool.not_false, Bool.true_and]
              rw [List.take_of_length_le (by simp)] at hall
              exact hall
            exact ⟨KeepsOthers.refl _, ⟨Nat.le_refl _, fun _ _ => rfl⟩, by simp [List.all_append, h1, ho], h2, h3⟩
    case done =>
      rintro D xs X hD hS ⟨h1, h2, h3⟩ hd
      obtain ⟨d0, d1⟩ := one_cell h2
      gi_wp2
      have hd' := (Below.heap_setCell X ⟨w.heap.size, 0, none⟩ (.bool true) D (by show D ≠ w.heap.size; omega)).trans hd
      refine ⟨by simp, .inl ⟨_, _, rfl, run_takeDeferred hd', ?_⟩⟩
      have hall : (parts path).all okp = true := by rw [← hS, List.all_map]; exact h1
      rw [hall]
      have g0 := (one_cell ((World.putObj_heap_other (w := X.setCell ⟨w.heap.size, 0, none⟩ (.bool true)) (o := .deferred none) (show w.heap.size ≠ D by omega)).trans (set_one h2 (.bool true)))).1
      refine ⟨_, ?_, rfl, below_put (h3.setCell (p := ⟨w.heap.size, 0, none⟩) (Nat.le_refl _) _) _ hd' (by omega)⟩
      simp [results, Tryd.f42, go_sem, g0]
    case stop =>
      rintro D c pre X hD hp ⟨⟨rfl, h1⟩, h2, h3⟩ hd
      gi_wp2
      refine ⟨by simp, .inl ⟨_, _, rfl, run_takeDeferred hd, ?_⟩⟩
      have hall : (parts path).all okp = false := by
        obtain ⟨r, hr⟩ := hp
        rw [← hr, List.all_append, List.all_map]
        have : (List.all pre (okp ∘ Subtype.val)) = false := h1
        rw [this]; rfl
      rw [hall]
      have g0 := (one_cell ((World.putObj_heap_other (w := X) (o := .deferred none) (show w.heap.size ≠ D by omega)).trans h2)).1
      refine ⟨_, ?_, rfl, below_put h3 _ hd (by omega)⟩
      simp [results, Tryd.f42, go_sem, g0]
  · have hR : vp_R path = false := by unfold vp_R; rw [decide_eq_false hsz]; rfl
    rw [hR]
    obtain ⟨d0, d1⟩ := one_cell (World.alloc_heap_new w (Obj.cells #[Value.bool false] 4))
    gi_wp2
    have g0 := (one_cell (set_one (World.alloc_heap_new w (Obj.cells #[Value.bool false] 4)) (.bool false))).1
    refine ⟨_, ?_, rfl, (Below.refl _ w).alloc (Nat.le_refl _) _⟩
    simp [results, Tryd.f42, go_sem, g0]
theorem compare_calls (a b : ByteArray) (w : World) : Calls Tryd.prog 46 #[.string a, .string b] w fun e w' => e = .returned (.int .i64 (Lib.compareBytes a.data.toList b.data.toList)) ∧ w' = w := Any.strings_Compare Tryd.lays106 a b w
theorem indexByte_calls (s : ByteArray) (c : Int) (w : World) : Calls Tryd.prog 58 #[.string s, .int .u8 c] w fun e w' => e = .returned (.int .i64 (Lib.indexByte s.data.toList c.toNat.toUInt8)) ∧ w' = w := Any.strings_IndexByte Tryd.lays137 s c w
def cmp_R (a b : ByteArray) : Int := Lib.compareBytes a.data.toList b.data.toList
def idx_R (s : ByteArray) (c : Int) : Int := Lib.indexByte s.data.toList c.toNat.toUInt8
theorem done_of {w w' : World} {A : Nat → Nat → Prop} (hA : ∀ b o, A b o → b < w.heap.size) (hB : Below w.heap.size w w') : Rel ⟨w, A, fun _ => False⟩ (cfg0 w' A) ∧ Ext (cfg0 w A) (cfg0 w' A) := by
  refine ⟨{
    below := ⟨hB.mono (Nat.zero_le _), fun k hk => hB.block k ?_⟩
    inj := fun r r' b hl => by simp [live, cfg0] at hl
    fresh := fun r b hl => by simp [live, cfg0] at hl
    bound := fun b o h => Nat.lt_of_lt_of_le (hA b o h) hB.size
    newA := fun b o h => .inl h
    obj := fun r ob h => by simp [cfg0] at h
    pl := PoolOk.none fun r m h => by simp [cfg0] at h }, {
    size := hB.size
    sub := fun _ _ h => h
    cells := fun b o h => World.cell?_of_block (a := ⟨b, o, none⟩) (hB.block b (hA b o h))
    len := Nat.le_refl _
    keep := fun r ob hr => by simp [cfg0] at hr }⟩
  rcases Nat.lt_or_ge k w.heap.size with g | g
  · exact g
  · exact absurd (.inl g) hk
theorem int_of {w : World} {A : Nat → Nat → Prop} {k : IntKind} {v : V} {rest : List V} {us : List Value} {ss : List Sh} (hf : fitL (.int k :: ss) (v :: rest) = true) (hr : RelVs (cfg0 w A) (v :: rest) us) :
    ∃ us', us = .int k (gI v) :: us' ∧ RelVs (cfg0 w A) rest us' := by
  have hf1 : fitV (.int k) v = true := by
    simp only [fitL, Bool.and_eq_true] at hf
    exact hf.1
  have e := fitV_eq _ _ hf1
  rw [e] at hr
  simp only [mkV, RelVs, RelV] at hr
  obtain ⟨u, us', hus, rfl, h4⟩ := hr
  exact ⟨us', hus, h4⟩
theorem str_of {w : World} {A : Nat → Nat → Prop} {v : V} {rest : List V} {us : List Value} {ss : List Sh} (hf : fitL (.str :: ss) (v :: rest) = true) (hr : RelVs (cfg0 w A) (v :: rest) us) :
    ∃ us', us = .string (gS v) :: us' ∧ RelVs (cfg0 w A) rest us' := by
  have hf1 : fitV .str v = true := by
    simp only [fitL, Bool.and_eq_true] at hf
    exact hf.1
  have e := fitV_eq _ _ hf1
  rw [e] at hr
  simp only [mkV, RelVs, RelV] at hr
  obtain ⟨u, us', hus, rfl, h4⟩ := hr
  exact ⟨us', hus, h4⟩
theorem fitL_tail {s : Sh} {ss : List Sh} {v : V} {vs : List V} (h : fitL (s :: ss) (v :: vs) = true) : fitL ss vs = true := by
  simp only [fitL, Bool.and_eq_true] at h
  exact h.2
theorem fitL_nil {vs : List V} (h : fitL [] vs = true) : vs = [] := by
  cases vs with
  | nil => rfl
  | cons v vs => simp [fitL] at h
theorem fitL_cons {s : Sh} {ss : List Sh} {vs : List V} (h : fitL (s :: ss) vs = true) : ∃ v r, vs = v :: r := by
  cases vs with
  | nil => simp [fitL] at h
  | cons v r => exact ⟨v, r, rfl⟩
theorem vp_ok : SoundFn Tryd.prog 42 (fun args K => argF [.str] args fun a => K (.x (.bool (vp_R (gS (a.getD 0 .any))))) []) := by
  intro w A args us K hA ha hs
  unfold argF at hs
  cases hf : fitL [.str] (nzL [.str] args) with
  | false => rw [hf] at hs; exact hs.elim
  | true =>
    rw [hf] at hs
    simp only [cond_true] at hs
    have hr := nzL_rel [.str] args _ ha
    generalize nzL [.str] args = vs at hf hr hs
    obtain ⟨v0, r0, rfl⟩ := fitL_cons hf
    obtain ⟨us1, e1, hr1⟩ := str_of hf hr
    obtain rfl := fitL_nil (fitL_tail hf)
    simp only [RelVs] at hr1
    have eus : us = #[.string (gS v0)] := by apply Array.ext'; rw [e1, hr1]
    rw [eus]
    refine (vp_calls (gS v0) w).mono ?_
    rintro e w' ⟨rfl, hB⟩
    obtain ⟨g1, g2⟩ := done_of hA hB
    exact ⟨_, V.x (.bool (vp_R (gS v0))), _, rfl, rfl, g1, g2, rfl, hs⟩
theorem cmp_ok : SoundFn Tryd.prog 46 (fun args K => argF [.str, .str] args fun a => K (.x (.int .i64 (cmp_R (gS (a.getD 0 .any)) (gS (a.getD 1 .any))))) []) := by
  intro w A args us K hA ha hs
  unfold argF at hs
  cases hf : fitL [.str, .str] (nzL [.str, .str] args) with
  | false => rw [hf] at hs; exact hs.elim
  | true =>
    rw [hf] at hs
    simp only [cond_true] at hs
    have hr := nzL_rel [.str, .str] args _ ha
    generalize nzL [.str, .str] args = vs at hf hr hs
    obtain ⟨v0, r0, rfl⟩ := fitL_cons hf
    obtain ⟨us1, e1, hr1⟩ := str_of hf hr
    have hf1 := fitL_tail hf
    obtain ⟨v1, r1, rfl⟩ := fitL_cons hf1
    obtain ⟨us2, e2, hr2⟩ := str_of hf1 hr1
    obtain rfl := fitL_nil (fitL_tail hf1)
    simp only [RelVs] at hr2
    have eus : us = #[.string (gS v0), .string (gS v1)] := by apply Array.ext'; rw [e1, e2, hr2]
    rw [eus]
    refine (compare_calls (gS v0) (gS v1) w).mono ?_
    rintro e w' ⟨rfl, rfl⟩
    obtain ⟨g1, g2⟩ := done_of hA (Below.refl _ w')
    exact ⟨_, V.x (.int .i64 (cmp_R (gS v0) (gS v1))), _, rfl, rfl, g1, g2, rfl, hs⟩
theorem idx_ok : SoundFn Tryd.prog 58 (fun args K => argF [.str, .int .u8] args fun a => K (.x (.int .i64 (idx_R (gS (a.getD 0 .any)) (gI (a.getD 1 .any))))) []) := by
  intro w A args us K hA ha hs
  unfold argF at hs
  cases hf : fitL [.str, .int .u8] (nzL [.str, .int .u8] args) with
  | false => rw [hf] at hs; exact hs.elim
  | true =>
    rw [hf] at hs
    simp only [cond_true] at hs
    have hr := nzL_rel [.str, .int .u8] args _ ha
    generalize nzL [.str, .int .u8] args = vs at hf hr hs
    obtain ⟨v0, r0, rfl⟩ := fitL_cons hf
    obtain ⟨us1, e1, hr1⟩ := str_of hf hr
    have hf1 := fitL_tail hf
    obtain ⟨v1, r1, rfl⟩ := fitL_cons hf1
    obtain ⟨us2, e2, hr2⟩ := int_of hf1 hr1
    obtain rfl := fitL_nil (fitL_tail hf1)
    simp only [RelVs] at hr2
    have eus : us = #[.string (gS v0), .int .u8 (gI v1)] := by apply Array.ext'; rw [e1, e2, hr2]
    rw [eus]
    refine (indexByte_calls (gS v0) (gI v1) w).mono ?_
    rintro e w' ⟨rfl, rfl⟩
    obtain ⟨g1, g2⟩ := done_of hA (Below.refl _ w')
    exact ⟨_, V.x (.int .i64 (idx_R (gS v0) (gI v1))), _, rfl, rfl, g1, g2, rfl, hs⟩
end La
namespace Eng
theorem argF_mono {ss : List Sh} {args : List V} {k k' : List V → Prop} (hk : ∀ a, k a → k' a) (h : argF ss args k) : argF ss args k' := by
  unfold argF at *
  cases hf : fitL ss (nzL ss args) with
  | false => rw [hf] at h; exact h.elim
  | true => rw [hf] at h; exact hk _ h
end Eng
end Go.Proofs.YtkpplfghhciacaaDoor
set_option linter.unusedVariables false
set_option maxRecDepth 100000
namespace Go.Proofs.YtkpplfghhciacaaDoor
open Eng
def D.Γ_digest_mul : Ctx := ctx0
theorem D.Γ_digest_mul_ok : SoundG Tryd.prog D.Γ_digest_mul := ctx0_ok
def D.Δ_digest_mul : CtxO := ctxO0
theorem D.Δ_digest_mul_ok : SoundGO Tryd.prog D.Δ_digest_mul := ctxO0_ok
def D.digest_mul_L1_b (a1 : Int) (b1 : Int) (out : Int) (self : Int → Int → Int → Prop) (Kx0 : Int → Prop) : Prop :=
  (bif (decide (b1 > 0)) then (bif ((i64 ((BitVec.ofInt 64 b1 &&& BitVec.ofInt 64 1).toNat)) == 1) then ((2305843009213693951 : Int) ≠ 0) ∧ ((2305843009213693951 : Int) ≠ 0) ∧ (0 ≤ (1 : Int)) ∧ self ((i64 ((2 : Int) * a1)).tmod 2305843009213693951) (b1.fdiv (2 ^ (min (1 : Int).toNat 64))) ((i64 (out + a1)).tmod 2305843009213693951) else ((2305843009213693951 : Int) ≠ 0) ∧ (0 ≤ (1 : Int)) ∧ self ((i64 ((2 : Int) * a1)).tmod 2305843009213693951) (b1.fdiv (2 ^ (min (1 : Int).toNat 64))) out) else Kx0 out)
def D.digest_mul_L1_R  : Nat → Int → Int → Int → (Int → Prop) → Prop
  | 0, _, _, _, _ => False
  | fu + 1, a1, b1, out, Kx0 => D.digest_mul_L1_b a1 b1 out (fun a1 b1 out => D.digest_mul_L1_R fu a1 b1 out Kx0) Kx0
structure D.digest_mul_L1 (a1 : Int) (b1 : Int) (out : Int) (Kx0 : Int → Prop) : Prop where
  out : ∃ fu, D.digest_mul_L1_R fu a1 b1 out Kx0
def D.digest_mul_L1_d : LoopD := { base := 0, vecs := [], flds := [], keep := [0, 1, 5], out := [5], rets := [4], rv := [], rbase := 0 }
def D.digest_mul_L1_ss : List Sh := [.int .i64, .int .i64, .int .i64]
def D.digest_mul_L1_os : List OSh := []
def D.digest_mul_L1_G (vs : List V) (st : List Ob) (K : Ex → St) : Prop := D.digest_mul_L1 (gI (vs.getD 0 .any)) (gI (vs.getD 1 .any)) (gI (vs.getD 2 .any)) (fun q0_ => K (.exit 0) (bld [5] [.xi q0_] 0 21) [])
def D.digest_mul_L1_F (vs : List V) (st : List Ob) (K : Ex → St) : Prop := fitF D.digest_mul_L1_ss D.digest_mul_L1_os vs st (D.digest_mul_L1_G vs st K)
theorem D.digest_mul_L1_eq  (K : Ex → St) : ∀ (fu : Nat) (a1 : Int) (b1 : Int) (out : Int), D.digest_mul_L1_R fu a1 b1 out (fun q0_ => K (.exit 0) (bld [5] [.xi q0_] 0 21) []) = iterL (stepL (exec Tryd.prog (CC Tryd.prog D.Γ_digest_mul D.Δ_digest_mul) (drawD Tryd.prog D.Γ_digest_mul D.Δ_digest_mul) .leaf (sub [true, true, false, false, false] (codeOf Tryd.f65))) 0 D.digest_mul_L1_d K) fu (bld D.digest_mul_L1_d.keep [.xi a1, .xi b1, .xi out] 0 21) [] := by
  intro fu
  induction fu with
  | zero => intros; rfl
  | succ fu ih =>
    intro a1 b1 out
    have e : (fun a1 b1 out => D.digest_mul_L1_R fu a1 b1 out (fun q0_ => K (.exit 0) (bld [5] [.xi q0_] 0 21) [])) = fun a1 b1 out => iterL (stepL (exec Tryd.prog (CC Tryd.prog D.Γ_digest_mul D.Δ_digest_mul) (drawD Tryd.prog D.Γ_digest_mul D.Δ_digest_mul) .leaf (sub [true, true, false, false, false] (codeOf Tryd.f65))) 0 D.digest_mul_L1_d K) fu (bld D.digest_mul_L1_d.keep [.xi a1, .xi b1, .xi out] 0 21) [] := by
      funext a1 b1 out; exact ih a1 b1 out
    show D.digest_mul_L1_b a1 b1 out (fun a1 b1 out => D.digest_mul_L1_R fu a1 b1 out (fun q0_ => K (.exit 0) (bld [5] [.xi q0_] 0 21) [])) (fun q0_ => K (.exit 0) (bld [5] [.xi q0_] 0 21) []) = _
    rw [e]
    kernel_rfl
theorem D.digest_mul_L1_imp (vs : List V) (st : List Ob) (K : Ex → St) (h : D.digest_mul_L1_G vs st K) : ∃ fu, iterL (stepL (exec Tryd.prog (CC Tryd.prog D.Γ_digest_mul D.Δ_digest_mul) (drawD Tryd.prog D.Γ_digest_mul D.Δ_digest_mul) .leaf (sub [true, true, false, false, false] (codeOf Tryd.f65))) 0 D.digest_mul_L1_d K) fu (bld D.digest_mul_L1_d.keep (mkL D.digest_mul_L1_ss 0 vs) 0 21) (mkOs D.digest_mul_L1_os 0 st) :=
  exMap (fun fu h => @Eq.mp _ _ (Eq.trans (D.digest_mul_L1_eq  K fu (gI (vs.getD 0 .any)) (gI (vs.getD 1 .any)) (gI (vs.getD 2 .any))) (by kernel_rfl)) h) (D.digest_mul_L1.out h)
theorem D.digest_mul_L1_ok : AnnOk Tryd.prog (CC Tryd.prog D.Γ_digest_mul D.Δ_digest_mul) (drawD Tryd.prog D.Γ_digest_mul D.Δ_digest_mul) 0 (.lift D.digest_mul_L1_d 21 D.digest_mul_L1_F) (.loop (sub [true, true, false, false, false] (codeOf Tryd.f65))) :=
  lift_ok (an := .leaf) (ss := D.digest_mul_L1_ss) (os := D.digest_mul_L1_os) (G := D.digest_mul_L1_G) rfl (Nat.le_of_ble_eq_true rfl) (annOk_leaf _) (D.digest_mul_L1_imp)
def D.digest_mul_B (a : Int) (b : Int) (K : Int → Prop) : Prop :=
  D.digest_mul_L1 a b 0 (fun out => K out)
structure D.digest_mul (a : Int) (b : Int) (K : Int → Prop) : Prop where
  out : D.digest_mul_B a b K
def D.digest_mul_ss : List Sh := [.int .i64, .int .i64]
def D.digest_mul_G (vs : List V) (K : V → List Ob → Prop) : Prop := D.digest_mul (gI (vs.getD 0 .any)) (gI (vs.getD 1 .any)) (fun r0 => K (.xi r0) [])
def D.digest_mul_S : SemF := fun args K => argF D.digest_mul_ss args fun a => D.digest_mul_G a K
theorem D.digest_mul_eq (a : Int) (b : Int) (K : V → List Ob → Prop) : run Tryd.prog D.Γ_digest_mul D.Δ_digest_mul (.node .leaf (.node .leaf (.node (.lift D.digest_mul_L1_d 21 D.digest_mul_L1_F) .leaf))) .any Tryd.f65 [.xi a, .xi b] K = D.digest_mul_B a b (fun r0 => K (.xi r0) []) := by
  kernel_rfl
theorem D.digest_mul_imp (vs : List V) (K : V → List Ob → Prop) : Imp (D.digest_mul_G vs K) (run Tryd.prog D.Γ_digest_mul D.Δ_digest_mul (.node .leaf (.node .leaf (.node (.lift D.digest_mul_L1_d 21 D.digest_mul_L1_F) .leaf))) .any Tryd.f65 (mkL D.digest_mul_ss 0 vs) K) :=
  Imp.of (Eq.trans (b := run Tryd.prog D.Γ_digest_mul D.Δ_digest_mul (.node .leaf (.node .leaf (.node (.lift D.digest_mul_L1_d 21 D.digest_mul_L1_F) .leaf))) .any Tryd.f65 [.xi (gI (vs.getD 0 .any)), .xi (gI (vs.getD 1 .any))] K) (by kernel_rfl) (D.digest_mul_eq (gI (vs.getD 0 .any)) (gI (vs.getD 1 .any)) K)) fun h => (D.digest_mul.out h)
theorem D.digest_mul_ok : SoundFn Tryd.prog 65 D.digest_mul_S :=
  fn_ok (sem := run Tryd.prog D.Γ_digest_mul D.Δ_digest_mul (.node .leaf (.node .leaf (.node (.lift D.digest_mul_L1_d 21 D.digest_mul_L1_F) .leaf))) .any Tryd.f65) (ss := D.digest_mul_ss) (G := D.digest_mul_G) (run_ok D.Γ_digest_mul_ok D.Δ_digest_mul_ok Tryd.func65 (ann := (.node .leaf (.node .leaf (.node (.lift D.digest_mul_L1_d 21 D.digest_mul_L1_F) .leaf)))) ⟨(annOk_leaf _), ⟨(annOk_leaf _), ⟨D.digest_mul_L1_ok, (annOk_leaf _)⟩⟩⟩) D.digest_mul_imp
def D.Γ_digest_next : Ctx := ctxC D.Γ_digest_mul 65 D.digest_mul_S
theorem D.Γ_digest_next_ok : SoundG Tryd.prog D.Γ_digest_next := ctxC_ok D.Γ_digest_mul_ok D.digest_mul_ok
def D.Δ_digest_next : CtxO := D.Δ_digest_mul
theorem D.Δ_digest_next_ok : SoundGO Tryd.prog D.Δ_digest_next := D.Δ_digest_mul_ok
def D.digest_next_B (s_0 : Int) (s_1 : Int) (factor : Int) (K : Int → Prop) : Prop :=
  (inB 0 2) ∧ (((0 : Int).toNat) < 2) ∧ D.digest_mul (([s_0, s_1] : List Int).getD ((0 : Int).toNat) 0) factor (fun r => (inB 1 2) ∧ (((1 : Int).toNat) < 2) ∧ ((2305843009213693951 : Int) ≠ 0) ∧ K ((i64 (r + (([s_0, s_1] : List Int).getD ((1 : Int).toNat) 0))).tmod 2305843009213693951))
structure D.digest_next (s_0 : Int) (s_1 : Int) (factor : Int) (K : Int → Prop) : Prop where
  out : D.digest_next_B s_0 s_1 factor K
def D.digest_next_ss : List Sh := [.agg [.int .i64, .int .i64], .int .i64]
def D.digest_next_G (vs : List V) (K : V → List Ob → Prop) : Prop := D.digest_next (gI ((gC (vs.getD 0 .any)).getD 0 .any)) (gI ((gC (vs.getD 0 .any)).getD 1 .any)) (gI (vs.getD 1 .any)) (fun r0 => K (.xi r0) [])
def D.digest_next_S : SemF := fun args K => argF D.digest_next_ss args fun a => D.digest_next_G a K
theorem D.digest_next_eq (s_0 : Int) (s_1 : Int) (factor : Int) (K : V → List Ob → Prop) : run Tryd.prog D.Γ_digest_next D.Δ_digest_next .leaf .any Tryd.f55 [.agg [.xi s_0, .xi s_1], .xi factor] K = D.digest_next_B s_0 s_1 factor (fun r0 => K (.xi r0) []) := by
  kernel_rfl
theorem D.digest_next_imp (vs : List V) (K : V → List Ob → Prop) : Imp (D.digest_next_G vs K) (run Tryd.prog D.Γ_digest_next D.Δ_digest_next .leaf .any Tryd.f55 (mkL D.digest_next_ss 0 vs) K) :=
  Imp.of (Eq.trans (b := run Tryd.prog D.Γ_digest_next D.Δ_digest_next .leaf .any Tryd.f55 [.agg [.xi (gI ((gC (vs.getD 0 .any)).getD 0 .any)), .xi (gI ((gC (vs.getD 0 .any)).getD 1 .any))], .xi (gI (vs.getD 1 .any))] K) (by kernel_rfl) (D.digest_next_eq (gI ((gC (vs.getD 0 .any)).getD 0 .any)) (gI ((gC (vs.getD 0 .any)).getD 1 .any)) (gI (vs.getD 1 .any)) K)) fun h => (D.digest_next.out h)
theorem D.digest_next_ok : SoundFn Tryd.prog 55 D.digest_next_S :=
  fn_ok (sem := run Tryd.prog D.Γ_digest_next D.Δ_digest_next .leaf .any Tryd.f55) (ss := D.digest_next_ss) (G := D.digest_next_G) (run_ok D.Γ_digest_next_ok D.Δ_digest_next_ok Tryd.func55 (ann := .leaf) (annOk_leaf _)) D.digest_next_imp
def D.Γ_digest_Of : Ctx := ctxC D.Γ_digest_next 55 D.digest_next_S
theorem D.Γ_digest_Of_ok : SoundG Tryd.prog D.Γ_digest_Of := ctxC_ok D.Γ_digest_next_ok D.digest_next_ok
def D.Δ_digest_Of : CtxO := D.Δ_digest_next
theorem D.Δ_digest_Of_ok : SoundGO Tryd.prog D.Δ_digest_Of := D.Δ_digest_next_ok
def D.digest_Of_L1_b (v11 : (List Int)) (v12 : Int) (h : Int) (v13 : Int) (self : Int → Int → Prop) (Kx0 : Int → Prop) : Prop :=
  (bif (decide (v13 < v12)) then (inB v13 v11.length) ∧ D.digest_next h (i64 ((i64 (v11.getD v13.toNat 0)) + 1)) 257 (fun r => self r (i64 (v13 + 1))) else Kx0 h)
def D.digest_Of_L1_R (v11 : (List Int)) (v12 : Int) : Nat → Int → Int → (Int → Prop) → Prop
  | 0, _, _, _ => False
  | fu + 1, h, v13, Kx0 => D.digest_Of_L1_b v11 v12 h v13 (fun h v13 => D.digest_Of_L1_R v11 v12 fu h v13 Kx0) Kx0
structure D.digest_Of_L1 (v11 : (List Int)) (v12 : Int) (h : Int) (v13 : Int) (Kx0 : Int → Prop) : Prop where
  out : ∃ fu, D.digest_Of_L1_R v11 v12 fu h v13 Kx0
def D.digest_Of_L1_d : LoopD := { base := 1, vecs := [], flds := [], keep := [3, 4, 11, 12, 13], out := [3, 4], rets := [2, 3], rv := [], rbase := 0 }
def D.digest_Of_L1_ss : List Sh := [.cl 0 0, .int .i64, .ro (.int .u8), .int .i64, .int .i64]
def D.digest_Of_L1_os : List OSh := [.cells [.int .i64, .int .i64]]
def D.digest_Of_L1_G (vs : List V) (st : List Ob) (K : Ex → St) : Prop := D.digest_Of_L1 (gR (.int .u8) (vs.getD 2 .any)) (gI (vs.getD 3 .any)) (gI (vs.getD 1 .any)) (gI (vs.getD 4 .any)) (fun q0_ => K (.exit 0) (bld [3, 4] [.cl 0 0, .xi q0_] 0 26) [.cells [.xi (cI st 0 0), .xi (cI st 0 1)]])
def D.digest_Of_L1_F (vs : List V) (st : List Ob) (K : Ex → St) : Prop := fitF D.digest_Of_L1_ss D.digest_Of_L1_os vs st (D.digest_Of_L1_G vs st K)
theorem D.digest_Of_L1_eq (v11 : (List Int)) (v12 : Int) (m0 : Int) (m01 : Int) (K : Ex → St) : ∀ (fu : Nat) (h : Int) (v13 : Int), D.digest_Of_L1_R v11 v12 fu h v13 (fun q0_ => K (.exit 0) (bld [3, 4] [.cl 0 0, .xi q0_] 0 26) [.cells [.xi m0, .xi m01]]) = iterL (stepL (exec Tryd.prog (CC Tryd.prog D.Γ_digest_Of D.Δ_digest_Of) (drawD Tryd.prog D.Γ_digest_Of D.Δ_digest_Of) .leaf (sub [true, true, true, false, true, false, false] (codeOf Tryd.f32))) 1 D.digest_Of_L1_d K) fu (bld D.digest_Of_L1_d.keep [.cl 0 0, .xi h, .ro (.int .u8) v11, .xi v12, .xi v13] 0 26) [.cells [.xi m0, .xi m01]] := by
  intro fu
  induction fu with
  | zero => intros; rfl
  | succ fu ih =>
    intro h v13
    have e : (fun h v13 => D.digest_Of_L1_R v11 v12 fu h v13 (fun q0_ => K (.exit 0) (bld [3, 4] [.cl 0 0, .xi q0_] 0 26) [.cells [.xi m0, .xi m01]])) = fun h v13 => iterL (stepL (exec Tryd.prog (CC Tryd.prog D.Γ_digest_Of D.Δ_digest_Of) (drawD Tryd.prog D.Γ_digest_Of D.Δ_digest_Of) .leaf (sub [true, true, true, false, true, false, false] (codeOf Tryd.f32))) 1 D.digest_Of_L1_d K) fu (bld D.digest_Of_L1_d.keep [.cl 0 0, .xi h, .ro (.int .u8) v11, .xi v12, .xi v13] 0 26) [.cells [.xi m0, .xi m01]] := by
      funext h v13; exact ih h v13
    show D.digest_Of_L1_b v11 v12 h v13 (fun h v13 => D.digest_Of_L1_R v11 v12 fu h v13 (fun q0_ => K (.exit 0) (bld [3, 4] [.cl 0 0, .xi q0_] 0 26) [.cells [.xi m0, .xi m01]])) (fun q0_ => K (.exit 0) (bld [3, 4] [.cl 0 0, .xi q0_] 0 26) [.cells [.xi m0, .xi m01]]) = _
    rw [e]
    kernel_rfl
theorem D.digest_Of_L1_imp (vs : List V) (st : List Ob) (K : Ex → St) (h : D.digest_Of_L1_G vs st K) : ∃ fu, iterL (stepL (exec Tryd.prog (CC Tryd.prog D.Γ_digest_Of D.Δ_digest_Of) (drawD Tryd.prog D.Γ_digest_Of D.Δ_digest_Of) .leaf (sub [true, true, true, false, true, false, false] (codeOf Tryd.f32))) 1 D.digest_Of_L1_d K) fu (bld D.digest_Of_L1_d.keep (mkL D.digest_Of_L1_ss 0 vs) 0 26) (mkOs D.digest_Of_L1_os 0 st) :=
  exMap (fun fu h => @Eq.mp _ _ (Eq.trans (D.digest_Of_L1_eq (gR (.int .u8) (vs.getD 2 .any)) (gI (vs.getD 3 .any)) (cI st 0 0) (cI st 0 1) K fu (gI (vs.getD 1 .any)) (gI (vs.getD 4 .any))) (by kernel_rfl)) h) (D.digest_Of_L1.out h)
theorem D.digest_Of_L1_ok : AnnOk Tryd.prog (CC Tryd.prog D.Γ_digest_Of D.Δ_digest_Of) (drawD Tryd.prog D.Γ_digest_Of D.Δ_digest_Of) 0 (.lift D.digest_Of_L1_d 26 D.digest_Of_L1_F) (.loop (sub [true, true, true, false, true, false, false] (codeOf Tryd.f32))) :=
  lift_ok (an := .leaf) (ss := D.digest_Of_L1_ss) (os := D.digest_Of_L1_os) (G := D.digest_Of_L1_G) rfl (Nat.le_of_ble_eq_true rfl) (annOk_leaf _) (D.digest_Of_L1_imp)
def D.digest_Of_B (data : (List Int)) (K : Int → Int → Int → Prop) : Prop :=
  (bif (decide ((data.length : Int) > 4096)) then K 0 2 0 else D.digest_Of_L1 data (data.length : Int) 1 0 (fun h => K h 0 0))
structure D.digest_Of (data : (List Int)) (K : Int → Int → Int → Prop) : Prop where
  out : D.digest_Of_B data K
def D.digest_Of_ss : List Sh := [.ro (.int .u8)]
def D.digest_Of_G (vs : List V) (K : V → List Ob → Prop) : Prop := D.digest_Of (gR (.int .u8) (vs.getD 0 .any)) (fun r0 r1 r2 => K (.tup [.xi r0, .agg [.xi r1, .xi r2]]) [])
def D.digest_Of_S : SemF := fun args K => argF D.digest_Of_ss args fun a => D.digest_Of_G a K
theorem D.digest_Of_eq (data : (List Int)) (K : V → List Ob → Prop) : run Tryd.prog D.Γ_digest_Of D.Δ_digest_Of (.node .leaf (.node .leaf (.node .leaf (.node (.node .leaf (.lift D.digest_Of_L1_d 26 D.digest_Of_L1_F)) .leaf)))) .any Tryd.f32 [.ro (.int .u8) data] K = D.digest_Of_B data (fun r0 r1 r2 => K (.tup [.xi r0, .agg [.xi r1, .xi r2]]) []) := by
  kernel_rfl
theorem D.digest_Of_imp (vs : List V) (K : V → List Ob → Prop) : Imp (D.digest_Of_G vs K) (run Tryd.prog D.Γ_digest_Of D.Δ_digest_Of (.node .leaf (.node .leaf (.node .leaf (.node (.node .leaf (.lift D.digest_Of_L1_d 26 D.digest_Of_L1_F)) .leaf)))) .any Tryd.f32 (mkL D.digest_Of_ss 0 vs) K) :=
  Imp.of (Eq.trans (b := run Tryd.prog D.Γ_digest_Of D.Δ_digest_Of (.node .leaf (.node .leaf (.node .leaf (.node (.node .leaf (.lift D.digest_Of_L1_d 26 D.digest_Of_L1_F)) .leaf)))) .any Tryd.f32 [.ro (.int .u8) (gR (.int .u8) (vs.getD 0 .any))] K) (by kernel_rfl) (D.digest_Of_eq (gR (.int .u8) (vs.getD 0 .any)) K)) fun h => (D.digest_Of.out h)
theorem D.digest_Of_ok : SoundFn Tryd.prog 32 D.digest_Of_S :=
  fn_ok (sem := run Tryd.prog D.Γ_digest_Of D.Δ_digest_Of (.node .leaf (.node .leaf (.node .leaf (.node (.node .leaf (.lift D.digest_Of_L1_d 26 D.digest_Of_L1_F)) .leaf)))) .any Tryd.f32) (ss := D.digest_Of_ss) (G := D.digest_Of_G) (run_ok D.Γ_digest_Of_ok D.Δ_digest_Of_ok Tryd.func32 (ann := (.node .leaf (.node .leaf (.node .leaf (.node (.node .leaf (.lift D.digest_Of_L1_d 26 D.digest_Of_L1_F)) .leaf))))) ⟨(annOk_leaf _), ⟨(annOk_leaf _), ⟨(annOk_leaf _), ⟨⟨(annOk_leaf _), D.digest_Of_L1_ok⟩, (annOk_leaf _)⟩⟩⟩⟩) D.digest_Of_imp
def D.Γ_digest_pair : Ctx := ctxC D.Γ_digest_Of 32 D.digest_Of_S
theorem D.Γ_digest_pair_ok : SoundG Tryd.prog D.Γ_digest_pair := ctxC_ok D.Γ_digest_Of_ok D.digest_Of_ok
def D.Δ_digest_pair : CtxO := D.Δ_digest_Of
theorem D.Δ_digest_pair_ok : SoundGO Tryd.prog D.Δ_digest_pair := D.Δ_digest_Of_ok
def D.digest_pair_B (a : Int) (b : Int) (K : Int → Prop) : Prop :=
  D.digest_next b 7 31 (fun r => D.digest_next a r 1000003 (fun r1 => K r1))
structure D.digest_pair (a : Int) (b : Int) (K : Int → Prop) : Prop where
  out : D.digest_pair_B a b K
def D.digest_pair_ss : List Sh := [.int .i64, .int .i64]
def D.digest_pair_G (vs : List V) (K : V → List Ob → Prop) : Prop := D.digest_pair (gI (vs.getD 0 .any)) (gI (vs.getD 1 .any)) (fun r0 => K (.xi r0) [])
def D.digest_pair_S : SemF := fun args K => argF D.digest_pair_ss args fun a => D.digest_pair_G a K
theorem D.digest_pair_eq (a : Int) (b : Int) (K : V → List Ob → Prop) : run Tryd.prog D.Γ_digest_pair D.Δ_digest_pair .leaf .any Tryd.f56 [.xi a, .xi b] K = D.digest_pair_B a b (fun r0 => K (.xi r0) []) := by
  kernel_rfl
theorem D.digest_pair_imp (vs : List V) (K : V → List Ob → Prop) : Imp (D.digest_pair_G vs K) (run Tryd.prog D.Γ_digest_pair D.Δ_digest_pair .leaf .any Tryd.f56 (mkL D.digest_pair_ss 0 vs) K) :=
  Imp.of (Eq.trans (b := run Tryd.prog D.Γ_digest_pair D.Δ_digest_pair .leaf .any Tryd.f56 [.xi (gI (vs.getD 0 .any)), .xi (gI (vs.getD 1 .any))] K) (by kernel_rfl) (D.digest_pair_eq (gI (vs.getD 0 .any)) (gI (vs.getD 1 .any)) K)) fun h => (D.digest_pair.out h)
theorem D.digest_pair_ok : SoundFn Tryd.prog 56 D.digest_pair_S :=
  fn_ok (sem := run Tryd.prog D.Γ_digest_pair D.Δ_digest_pair .leaf .any Tryd.f56) (ss := D.digest_pair_ss) (G := D.digest_pair_G) (run_ok D.Γ_digest_pair_ok D.Δ_digest_pair_ok Tryd.func56 (ann := .leaf) (annOk_leaf _)) D.digest_pair_imp
end Go.Proofs.YtkpplfghhciacaaDoor
set_option linter.unusedVariables false
namespace Go.Proofs.YtkpplfghhciacaaDoor
open Eng
namespace Dg
theorem drop_cons {α : Type} {l : List α} {i : Nat} (d : α) (h : i < l.length) : l.drop i = l.getD i d :: l.drop (i + 1) := by
  rw [List.drop_eq_getElem_cons h]; simp [List.getD, List.getElem?_eq_getElem h]
def dg (a : Int) : Prop := 0 ≤ a ∧ a < 2305843009213693951
def pr (a b : Int) : Int := (a * 1000003 + b * 31 + 7) % 2305843009213693951
theorem pr_dg (a b : Int) : dg (pr a b) := by unfold dg pr; omega
theorem bit1 (b : Nat) : (BitVec.ofInt 64 (b : Int) &&& BitVec.ofInt 64 1).toNat = b % 2 := by
  rw [BitVec.toNat_and]
  have h1 : (BitVec.ofInt 64 (1 : Int)).toNat = 1 := by decide
  rw [h1, Nat.and_one_is_mod]
  simp only [BitVec.ofInt_natCast, BitVec.toNat_ofNat]
  omega
theorem half1 (b : Nat) : (b : Int).fdiv (2 ^ (min (1 : Int).toNat 64)) = ((b / 2 : Nat) : Int) := by
  show (b : Int).fdiv 2 = _
  rw [Int.fdiv_eq_ediv_of_nonneg _ (by omega)]
  omega
theorem step1 {a out : Int} {b : Nat} (hb : b % 2 = 1) : ((out + a) % 2305843009213693951 + (2 * a % 2305843009213693951) * ((b / 2 : Nat) : Int)) % 2305843009213693951 = (out + a * b) % 2305843009213693951 := by
  have e : out + a * (b : Int) = (out + a) + 2 * a * ((b / 2 : Nat) : Int) := by
    have h : (b : Int) = 2 * ((b / 2 : Nat) : Int) + 1 := by omega
    generalize hk : ((b / 2 : Nat) : Int) = k at h ⊢
    rw [h, Int.mul_add, Int.mul_one, Int.mul_left_comm, Int.mul_assoc]; omega
  rw [e, Int.add_emod, Int.emod_emod, Int.mul_emod, Int.emod_emod, ← Int.mul_emod, ← Int.add_emod]
theorem step0 {a out : Int} {b : Nat} (hb : b % 2 = 0) : (out + (2 * a % 2305843009213693951) * ((b / 2 : Nat) : Int)) % 2305843009213693951 = (out + a * b) % 2305843009213693951 := by
  have e : out + a * (b : Int) = out + 2 * a * ((b / 2 : Nat) : Int) := by
    have h : (b : Int) = 2 * ((b / 2 : Nat) : Int) := by omega
    generalize hk : ((b / 2 : Nat) : Int) = k at h ⊢
    rw [h, Int.mul_left_comm, Int.mul_assoc]
  rw [e, Int.add_emod, Int.mul_emod, Int.emod_emod, ← Int.mul_emod, ← Int.add_emod]
theorem tmod_pos {a : Int} (h : 0 ≤ a) : a.tmod 2305843009213693951 = a % 2305843009213693951 := Int.tmod_eq_emod_of_nonneg h
theorem mul_loop {K : Int → Prop} : ∀ (fu b : Nat) (a out : Int), b < 2 ^ fu → fu ≤ 60 → dg a → dg out → K ((out + a * b) % 2305843009213693951) → D.digest_mul_L1_R (fu + 1) a b out K
  | fu, b, a, out, hb, hf, ha, ho, hK => by
    have hlt : (2 : Nat) ^ fu ≤ 2 ^ 60 := Nat.pow_le_pow_right (by omega) hf
    have h60 : (2 : Nat) ^ 60 = 1152921504606846976 := by decide
    show D.digest_mul_L1_b a b out _ _
    unfold D.digest_mul_L1_b
    obtain ⟨ha1, ha2⟩ := ha
    obtain ⟨ho1, ho2⟩ := ho
    rcases Nat.eq_zero_or_pos b with rfl | hpos
    · refine cond_f (by simp) ?_
      have : (out + a * ((0 : Nat) : Int)) % 2305843009213693951 = out := by
        simp only [Int.natCast_zero, Int.mul_zero, Int.add_zero]; omega
      rw [this] at hK
      exact hK
    · refine cond_t (by simp; omega) ?_
      obtain ⟨f, rfl⟩ : ∃ f, fu = f + 1 := by
        cases fu with
        | zero => omega
        | succ f => exact ⟨f, rfl⟩
      have hb2 : b / 2 < 2 ^ f := by rw [Nat.pow_succ] at hb; omega
      rw [bit1, half1]
      rw [i64_id (n := (2 : Int) * a) (by omega) (by omega), tmod_pos (by omega)]
      have hda : dg (2 * a % 2305843009213693951) := by unfold dg; omega
      rcases Nat.mod_two_eq_zero_or_one b with h | h
      · rw [h]
        refine cond_f (by decide) ⟨by decide, by decide, ?_⟩
        refine mul_loop f (b / 2) _ out hb2 (by omega) hda ⟨ho1, ho2⟩ ?_
        rw [step0 h]; exact hK
      · rw [h]
        refine cond_t (by decide) ⟨by decide, by decide, by decide, ?_⟩
        rw [i64_id (n := out + a) (by omega) (by omega), tmod_pos (by omega)]
        refine mul_loop f (b / 2) _ _ hb2 (by omega) hda (by unfold dg; omega) ?_
        rw [step1 h]; exact hK
theorem mul_ok {a : Int} {b : Nat} (ha : dg a) (hb : b < 1048576) {K : Int → Prop} (hK : K (a * b % 2305843009213693951)) : D.digest_mul a b K :=
  ⟨⟨⟨21, mul_loop 20 b a 0 hb (by omega) ha ⟨by omega, by omega⟩ (by rw [Int.zero_add]; exact hK)⟩⟩⟩
theorem next_ok {s0 s1 : Int} {f : Nat} (h0 : dg s0) (h1 : 0 ≤ s1 ∧ s1 ≤ 2305843009213693951) (hf : f < 1048576) {K : Int → Prop} (hK : K ((s0 * f % 2305843009213693951 + s1) % 2305843009213693951)) : D.digest_next s0 s1 f K := by
  constructor
  unfold D.digest_next_B
  refine ⟨inB_of (by omega) (by omega), by decide, mul_ok h0 hf ⟨inB_of (by omega) (by omega), by decide, by decide, ?_⟩⟩
  rw [show ([s0, s1] : List Int).getD ((1 : Int).toNat) 0 = s1 from rfl, i64_id (by omega) (by omega), tmod_pos (by omega)]
  exact hK
theorem pair_ok {a b : Int} (ha : dg a) (hb : dg b) {K : Int → Prop} (hK : K (pr a b)) : D.digest_pair a b K := by
  constructor
  unfold D.digest_pair_B
  refine next_ok (f := 31) hb (by omega) (by omega) (next_ok (f := 1000003) ha (by omega) (by omega) ?_)
  have : (a * ((1000003 : Nat) : Int) % 2305843009213693951 + (b * ((31 : Nat) : Int) % 2305843009213693951 + 7) % 2305843009213693951) % 2305843009213693951 = pr a b := by unfold pr; omega
  rw [this]; exact hK
def ofS (h b : Int) : Int := (h * 257 % 2305843009213693951 + (b + 1)) % 2305843009213693951
def ofN (l : List Int) : Int := l.foldl ofS 1
theorem ofS_dg (h b : Int) : dg (ofS h b) := by unfold dg ofS; omega
theorem Of_loop {l : List Int} (hl : l.length ≤ 4096) (hb : ∀ b ∈ l, 0 ≤ b ∧ b < 256) {K : Int → Prop} : ∀ (fu i : Nat) (h : Int), i ≤ l.length → l.length - i < fu → dg h → K ((l.drop i).foldl ofS h) → D.digest_Of_L1_R l (l.length : Int) fu h (i : Int) K
  | 0, i, h, hi, hf, hd, hK => absurd hf (by omega)
  | fu + 1, i, h, hi, hf, hd, hK => by
    show D.digest_Of_L1_b l (l.length : Int) h (i : Int) _ _
    unfold D.digest_Of_L1_b
    rcases Nat.lt_or_ge i l.length with g | g
    · refine cond_t (by simp; omega) ⟨inB_of (by omega) (by omega), ?_⟩
      rw [drop_cons 0 g, List.foldl_cons] at hK
      have hm : l.getD i 0 ∈ l := by simp [List.getD, List.getElem?_eq_getElem g]
      obtain ⟨b1, b2⟩ := hb _ hm
      rw [show ((i : Int)).toNat = i from rfl, i64_id (n := l.getD i 0) (by omega) (by omega), i64_id (n := l.getD i 0 + 1) (by omega) (by omega)]
      refine next_ok (f := 257) hd (by omega) (by omega) ?_
      rw [i64_id (n := (i : Int) + 1) (by omega) (by omega)]
      exact Of_loop hl hb fu (i + 1) _ (by omega) (by omega) (ofS_dg h _) hK
    · refine cond_f (by simp; omega) ?_
      rw [List.drop_eq_nil_of_le (by omega)] at hK
      exact hK
theorem ofN_dg (l : List Int) : dg (ofN l) := by
  unfold ofN
  have : ∀ (l : List Int) (h : Int), dg h → dg (l.foldl ofS h) := fun l => by
    induction l with
    | nil => intro h hh; exact hh
    | cons a r ih => intro h hh; exact ih _ (ofS_dg h a)
  exact this l 1 (by unfold dg; omega)
theorem Of_ok {l : List Int} (hl : l.length ≤ 4096) (hb : ∀ b ∈ l, 0 ≤ b ∧ b < 256) {K : Int → Int → Int → Prop} (hK : K (ofN l) 0 0) : D.digest_Of l K := by
  constructor
  unfold D.digest_Of_B
  refine cond_f (by simp; omega) ⟨⟨l.length + 1, ?_⟩⟩
  exact Of_loop hl hb (l.length + 1) 0 1 (by omega) (by omega) (by unfold dg; omega) (by rw [List.drop_zero]; exact hK)
theorem Of_long {l : List Int} (hl : 4096 < l.length) {K : Int → Int → Int → Prop} (hK : K 0 2 0) : D.digest_Of l K := by
  constructor
  unfold D.digest_Of_B
  exact cond_t (by simp; omega) hK
end Dg
end Go.Proofs.YtkpplfghhciacaaDoor
set_option linter.unusedVariables false
set_option linter.unusedSimpArgs false
namespace Go.Proofs.YtkpplfghhciacaaDoor
namespace Dg
open Go.RowKit Go.Shelf Eng
attribute [local go_sem] Oper.semAt_some
def bts (s : ByteArray) : List Int := s.data.toList.map fun b => (b.toNat : Int)
theorem bts_len (s : ByteArray) : (bts s).length = s.size := by unfold bts; rw [List.length_map]; rfl
theorem bts_b (s : ByteArray) : ∀ b ∈ bts s, 0 ≤ b ∧ b < 256 := by
  intro b hb
  unfold bts at hb
  obtain ⟨c, _, rfl⟩ := List.mem_map.1 hb
  have := c.toNat_lt
  omega
def tx (s : ByteArray) : Int × Int := if s.size ≤ 4096 then (ofN (bts s), 0) else (0, 2)
theorem Of_tx (s : ByteArray) {K : Int → Int → Int → Prop} (hK : K (tx s).1 (tx s).2 0) : D.digest_Of (bts s) K := by
  unfold tx at hK
  split at hK
  · next h => exact Of_ok (by rw [bts_len]; exact h) (bts_b s) hK
  · next h => exact Of_long (by rw [bts_len]; omega) hK
theorem below_of {w w' : World} {A : Nat → Nat → Prop} {c' : Cfg} (hr : Rel ⟨w, A, fun _ => False⟩ c') (e : c'.w = w') : Below w.heap.size w w' := by
  subst e
  have h := hr.below
  exact ⟨h.b0.os, h.b0.tape, h.b0.output, h.b0.size, fun k hk => h.block k (noOwn hk)⟩
theorem of_calls (s : ByteArray) (w : World) (cap : Nat) (hc : s.size ≤ cap) : Calls Tryd.prog 32 #[.slice (some ⟨w.heap.size, 0, none⟩) s.size cap] (Lib.bytesWorld w 5 s) fun e w' =>
    e = .returned (.tuple #[.int .i64 (tx s).1, .agg #[.int .i64 (tx s).2, .int .i64 0]]) ∧ Below w.heap.size w w' := by
  have hz := Lib.bytesWorld_size w 5 s
  have hro : RoV (Lib.bytesWorld w 5 s) (fun b o => b = w.heap.size) (.slice (.int .u8)) (bts s) [.slice (some ⟨w.heap.size, 0, none⟩) s.size cap] := by
    refine .inr ⟨w.heap.size, 0, none, cap, congrArg (fun n => [Value.slice (some ⟨w.heap.size, 0, none⟩) n cap]) (bts_len s).symm, fun _ => rfl, Nat.le_trans (Nat.le_of_eq (bts_len s)) hc, fun i y hy => ⟨[.int .u8 y], rfl, rfl, fun j u hu => ⟨?_, rfl⟩⟩⟩
    cases j with
    | zero =>
      have hu' : Value.int .u8 y = u := by simpa using hu
      subst hu'
      have hi : i < s.size := Nat.lt_of_lt_of_eq (List.getElem?_eq_some_iff.1 hy).1 (bts_len s)
      have hs1 : (Ty.int IntKind.u8).size = 1 := rfl
      rw [hs1, Nat.mul_one, Nat.zero_add, Nat.add_zero, Lib.bytesWorld_cell w 5 s i hi]
      have hy2 : (bts s)[i]? = some (((s.data.toList.getD i 0).toNat : Nat) : Int) := by
        have hl : i < s.data.toList.length := hi
        unfold bts
        rw [List.getElem?_map, List.getElem?_eq_getElem hl, List.getD_eq_getElem?_getD, List.getElem?_eq_getElem hl]; rfl
      have hy3 := hy.symm.trans hy2
      injection hy3 with hy4
      rw [hy4]
    | succ j => simp at hu
  refine (D.digest_Of_ok (Lib.bytesWorld w 5 s) (fun b o => b = w.heap.size) [.ro (.int .u8) (bts s)] _ (fun v _ => v = .tup [.x (.int .i64 (tx s).1), .agg [.x (.int .i64 (tx s).2), .x (.int .i64 0)]]) (fun b o h => ?_) ?_ ?_).mono ?_
  · rw [hz, h]; omega
  · simp only [RelVs, RelV, cfg0]
    exact ⟨_, _, rfl, hro, rfl⟩
  · have e : D.digest_Of_S [.ro (.int .u8) (bts s)] (fun v _ => v = .tup [.x (.int .i64 (tx s).1), .agg [.x (.int .i64 (tx s).2), .x (.int .i64 0)]]) =
        D.digest_Of (bts s) (fun r0 r1 r2 => V.tup [.x (.int .i64 r0), .agg [.x (.int .i64 r1), .x (.int .i64 r2)]] = .tup [.x (.int .i64 (tx s).1), .agg [.x (.int .i64 (tx s).2), .x (.int .i64 0)]]) := by kernel_rfl
    rw [e]
    exact Of_tx s rfl
  · rintro e w' ⟨u, v, c', rfl, e2, hr, _, hv, rfl⟩
    have hB := below_of hr e2
    rw [hz] at hB
    simp only [RelV, RelVs] at hv
    obtain ⟨us, rfl, u1, us1, h1, rfl, u2, us2, rfl, ⟨us3, rfl, u4, us4, h4, rfl, u5, us5, rfl, rfl, rfl⟩, rfl⟩ := hv
    have e3 : us = #[.int .i64 (tx s).1, .agg us3] := by apply Array.ext'; rw [h1]
    have e4 : us3 = #[.int .i64 (tx s).2, .int .i64 0] := by apply Array.ext'; rw [h4]
    subst e3
    subst e4
    exact ⟨rfl, (Lib.bytesWorld_below w 5 s).trans (hB.mono (by omega))⟩
set_option maxRecDepth 100000 in
set_option maxHeartbeats 4000000 in
theorem text_calls (s : ByteArray) (w : World) : Calls Tryd.prog 31 #[.string s] w fun e w' => e = .returned (.int .i64 (tx s).1) ∧ Below w.heap.size w w' := by
  have hcv := Lib.run_convert_string_bytes (P := Tryd.prog) w 9 77 5 s (u := .string) Tryd.underlying9 Tryd.underlying77 Tryd.underlying5
  go_enter Tryd.func31, Tryd.ntmps31
  go_wp2_with (go_at_call 32; refine (of_calls s w _ (grownCap_ge w s.size 0 5)).mono ?_; rintro e w' ⟨rfl, hB⟩)
  go_wp2
  go_ret
  exact ⟨rfl, hB.alloc hB.size _⟩
theorem pair_calls (a b : Int) (ha : dg a) (hb : dg b) (W : World) : Calls Tryd.prog 56 #[.int .i64 a, .int .i64 b] W fun e w' => e = .returned (.int .i64 (pr a b)) ∧ Below W.heap.size W w' := by
  refine (D.digest_pair_ok W (fun _ _ => False) [.x (.int .i64 a), .x (.int .i64 b)] _ (fun v _ => v = .x (.int .i64 (pr a b))) (fun b o h => h.elim) ?_ ?_).mono ?_
  · simp only [RelVs, RelV, cfg0]
    exact ⟨_, _, rfl, rfl, _, _, rfl, rfl, rfl⟩
  · have e : D.digest_pair_S [.x (.int .i64 a), .x (.int .i64 b)] (fun v _ => v = .x (.int .i64 (pr a b))) = D.digest_pair a b (fun r0 => V.x (.int .i64 r0) = .x (.int .i64 (pr a b))) := by kernel_rfl
    rw [e]
    exact pair_ok ha hb rfl
  · rintro e w' ⟨u, v, c', rfl, e2, hr, _, hv, rfl⟩
    simp only [RelV] at hv
    subst hv
    exact ⟨rfl, below_of hr e2⟩
def dgl : Int → Int → List ByteArray → Int × (Int × Int)
  | _, h, [] => (h, (0, 0))
  | i, h, s :: r => if (tx s).2 = 0 then dgl (i + 1) (pr h (tx s).1) r else (0, ((tx s).2, i))
def dgs (l : List ByteArray) : Int × (Int × Int) := if 120 < l.length then (0, (2, -1)) else dgl 0 2 l
theorem tx_dg {s : ByteArray} (h : (tx s).2 = 0) : dg (tx s).1 := by
  unfold tx at h ⊢
  split
  · exact ofN_dg _
  · next g => rw [if_neg g] at h; exact absurd h (by decide)
theorem dgl_tx (i h : Int) (s : ByteArray) (r : List ByteArray) : dgl i h (s :: r) = if (tx s).2 = 0 then dgl (i + 1) (pr h (tx s).1) r else (0, ((tx s).2, i)) := rfl
theorem two_cells {W : World} {b : Nat} {x y : Value} {t : TypeId} (h : W.heap[b]? = some (.cells #[x, y] t (0, 0))) :
    W.cell? ⟨b, 0, none⟩ = some x ∧ W.cell? ⟨b, 1, none⟩ = some y ∧ W.frozen? ⟨b, 0, none⟩ = false ∧ W.frozen? ⟨b, 1, none⟩ = false := by
  simp [World.cell?, World.frozen?, h]
theorem set_two0 {W : World} {b : Nat} {x y : Value} {t : TypeId} (h : W.heap[b]? = some (.cells #[x, y] t (0, 0))) (v : Value) : (W.setCell ⟨b, 0, none⟩ v).heap[b]? = some (.cells #[v, y] t (0, 0)) := by
  obtain ⟨hlt, hk⟩ := Array.getElem?_eq_some_iff.1 h
  show (W.heap.modify b _)[b]? = _
  rw [Array.getElem?_eq_getElem (by rw [Array.size_modify]; exact hlt), Array.getElem_modify_self, hk]
  rfl
theorem set_two1 {W : World} {b : Nat} {x y : Value} {t : TypeId} (h : W.heap[b]? = some (.cells #[x, y] t (0, 0))) (v : Value) : (W.setCell ⟨b, 1, none⟩ v).heap[b]? = some (.cells #[x, v] t (0, 0)) := by
  obtain ⟨hlt, hk⟩ := Array.getElem?_eq_some_iff.1 h
  show (W.heap.modify b _)[b]? = _
  rw [Array.getElem?_eq_getElem (by rw [Array.size_modify]; exact hlt), Array.getElem_modify_self, hk]
  rfl
def mS (n : Nat) : Value → Nat
  | .int _ i => n - i.toNat
  | _ => 0
set_option maxRecDepth 100000 in
set_option maxHeartbeats 8000000 in
theorem strings_calls (l : List ByteArray) (a : Option Addr) (cap : Nat) (w : World) (ha : ∀ i, i < l.length → ∃ b o, a = some ⟨b, o, none⟩ ∧ b < w.heap.size ∧ w.cell? ⟨b, o + i, none⟩ = some (.string (l.getD i ByteArray.empty))) : Calls Tryd.prog 34 #[.slice a l.length cap] w fun e w' =>
    e = .returned (.tuple #[.int .i64 (dgs l).1, .agg #[.int .i64 (dgs l).2.1, .int .i64 (dgs l).2.2]]) ∧ Below w.heap.size w w' := by
  unfold dgs
  by_cases hlen : 120 < l.length
  · rw [if_pos hlen]
    go_enter Tryd.func34, Tryd.ntmps34
    go_wp2
    obtain ⟨g0, g1, _, _⟩ := two_cells (World.alloc_heap_new w (.cells #[.int .i64 2, .int .i64 (-1)] 26))
    refine ⟨rfl, _, ?_, And.intro rfl ((Below.refl _ w).alloc (Nat.le_refl _) _)⟩
    simp [results, Tryd.f34, go_sem, g0, g1]
  · rw [if_neg hlen]
    go_enter Tryd.func34, Tryd.ntmps34
    go_wp2
    go_loopw [4, 15] (fun vh vi W => ∃ (k : Nat) (h : Int), vi = .int .i64 k ∧ vh = .int .i64 h ∧ k ≤ l.length ∧ dg h ∧ Below w.heap.size w W ∧ W.heap[w.heap.size]? = some (.cells #[.int .i64 0, .int .i64 0] 26 (0, 0)) ∧ dgl 0 2 l = dgl k h (l.drop k)) (fun vh vi _ => mS l.length vi)
    case atStart => exact ⟨0, 2, rfl, rfl, Nat.zero_le _, by unfold dg; omega, (Below.refl _ w).alloc (Nat.le_refl _) _, World.alloc_heap_new w _, by rw [List.drop_zero]; rfl⟩
    case round =>
      obtain ⟨k, h, rfl, rfl, hk, hd, hB, hc, he⟩ := hrel
      by_cases hlt : k < l.length
      · obtain ⟨b, o, rfl, hb, hcell⟩ := ha k hlt
        have hcell2 : wr.cell? ⟨b, o + k, none⟩ = some (.string (l.getD k ByteArray.empty)) := (World.cell?_of_block (a := ⟨b, o + k, none⟩) (hB.block b hb)).trans hcell
        rw [drop_cons ByteArray.empty hlt] at he
        generalize l.getD k ByteArray.empty = s at hcell2 he
        have hcv := Lib.run_convert_string_bytes (P := Tryd.prog) wr 9 77 5 s (u := .string) Tryd.underlying9 Tryd.underlying77 Tryd.underlying5
        rw [dgl_tx] at he
        clear ha hcell
        by_cases ht : (tx s).2 = 0
        · rw [if_pos ht] at he
          have htd := tx_dg ht
          have hoc := of_calls s wr _ (grownCap_ge wr s.size 0 5)
          rw [ht] at hoc
          go_wp2_with (go_at_call 32; refine hoc.mono ?_; rintro e w1 ⟨rfl, hB2⟩)
          refine (pair_calls h (tx s).1 hd htd _).mono ?_
          rintro e w2 ⟨rfl, hB3⟩
          rw [World.size_alloc] at hB3
          have hB4 : Below w.heap.size w w2 := ((hB.trans (hB2.mono hB.size)).alloc (Nat.le_trans hB.size hB2.size) _).trans (hB3.mono (by have := hB.size; have := hB2.size; omega))
          have hc4 : w2.heap[w.heap.size]? = some (.cells #[.int .i64 0, .int .i64 0] 26 (0, 0)) := by
            have hlt0 : w.heap.size < wr.heap.size := (Array.getElem?_eq_some_iff.1 hc).1
            rw [hB3.block _ (by have := hB2.size; omega), Below.heap_alloc w1 _ _ (by have := hB2.size; omega), hB2.block _ hlt0]
            exact hc
          go_wp2
          refine ⟨⟨k + 1, pr h (tx s).1, by rw [Int.natCast_add]; rfl, rfl, hlt, pr_dg _ _, hB4, hc4, ?_⟩, ?_⟩
          · rw [he, Int.natCast_add]; rfl
          · show l.length - ((k : Int) + 1).toNat < l.length - ((k : Int)).toNat
            omega
        · rw [if_neg ht] at he
          have hoc := of_calls s wr _ (grownCap_ge wr s.size 0 5)
          generalize hcd : (tx s).2 = cd at hoc he ht
          obtain ⟨c0, c1, f0, f1⟩ := two_cells hc
          have hlt0 : w.heap.size < wr.heap.size := (Array.getElem?_eq_some_iff.1 hc).1
          go_wp2_with (go_at_call 32; refine hoc.mono ?_; rintro e w1 ⟨rfl, hB2⟩)
          have hB5 : Below w.heap.size w (w1.alloc (Obj.cells #[Value.int .i64 cd, Value.int .i64 0] 26)) := (hB.trans (hB2.mono hB.size)).alloc (Nat.le_trans hB.size hB2.size) _
          have hc5 : (w1.alloc (Obj.cells #[Value.int .i64 cd, Value.int .i64 0] 26)).heap[w.heap.size]? = some (.cells #[.int .i64 0, .int .i64 0] 26 (0, 0)) := by
            rw [Below.heap_alloc w1 _ _ (by have := hB2.size; omega), hB2.block _ hlt0]
            exact hc
          have q3 := World.alloc_heap_new w1 (Obj.cells #[Value.int .i64 cd, Value.int .i64 0] 26)
          have hne : w.heap.size ≠ w1.heap.size := by have := hB2.size; omega
          clear c0 c1 f0 f1
          generalize w1.alloc (Obj.cells #[Value.int .i64 cd, Value.int .i64 0] 26) = W4 at hB5 hc5 q3 ⊢
          obtain ⟨c0, c1, f0, f1⟩ := two_cells hc5
          obtain ⟨e0, e1, _, _⟩ := two_cells q3
          go_region
          dsimp only [Exit.then]
          go_at_K
          go_wp2
          obtain ⟨g0, g1, _, _⟩ := two_cells (set_two1 (set_two0 hc5 (.int .i64 cd)) (.int .i64 k))
          rw [he]
          refine ⟨rfl, _, ?_, And.intro rfl (((hB5.setCell (p := ⟨w.heap.size, 0, none⟩) (Nat.le_refl _) _).setCell (p := ⟨w.heap.size, 1, none⟩) (Nat.le_refl _) _).drew)⟩
          simp [results, Tryd.f34, go_sem, g0, g1]
      · obtain ⟨c0, c1, f0, f1⟩ := two_cells hc
        go_wp2
        obtain ⟨g0, g1, _, _⟩ := two_cells (set_two1 (set_two0 hc (.int .i64 0)) (.int .i64 0))
        have hk2 : k = l.length := by omega
        rw [hk2, List.drop_eq_nil_of_le (Nat.le_refl _)] at he
        rw [he]
        refine ⟨rfl, _, ?_, And.intro rfl ((hB.setCell (p := ⟨w.heap.size, 0, none⟩) (Nat.le_refl _) _).setCell (p := ⟨w.heap.size, 1, none⟩) (Nat.le_refl _) _)⟩
        simp [results, Tryd.f34, go_sem, g0, g1, dgl]
def text_R (s : ByteArray) : Int := (tx s).1
def strings_R (l : List ByteArray) : Int × (Int × Int) := dgs l
theorem done_of {w w' : World} {A : Nat → Nat → Prop} (hA : ∀ b o, A b o → b < w.heap.size) (hB : Below w.heap.size w w') : Rel ⟨w, A, fun _ => False⟩ (cfg0 w' A) ∧ Ext (cfg0 w A) (cfg0 w' A) := by
  refine ⟨{
    below := ⟨hB.mono (Nat.zero_le _), fun k hk => hB.block k ?_⟩
    inj := fun r r' b hl => by simp [live, cfg0] at hl
    fresh := fun r b hl => by simp [live, cfg0] at hl
    bound := fun b o h => Nat.lt_of_lt_of_le (hA b o h) hB.size
    newA := fun b o h => .inl h
    obj := fun r ob h => by simp [cfg0] at h
    pl := PoolOk.none fun r m h => by simp [cfg0] at h }, {
    size := hB.size
    sub := fun _ _ h => h
    cells := fun b o h => World.cell?_of_block (a := ⟨b, o, none⟩) (hB.block b (hA b o h))
    len := Nat.le_refl _
    keep := fun r ob hr => by simp [cfg0] at hr }⟩
  rcases Nat.lt_or_ge k w.heap.size with g | g
  · exact g
  · exact absurd (.inl g) hk
theorem getD_str (l : List ByteArray) {i : Nat} (hi : i < l.length) : l.getD i ByteArray.empty = l[i] := by
  rw [List.getD_eq_getElem?_getD, List.getElem?_eq_getElem hi]; rfl
theorem fitL_cons {s : Sh} {ss : List Sh} {vs : List V} (h : fitL (s :: ss) vs = true) : ∃ v r, vs = v :: r := by
  cases vs with
  | nil => simp [fitL] at h
  | cons v r => exact ⟨v, r, rfl⟩
theorem fitL_one {s : Sh} {vs : List V} (h : fitL [s] vs = true) : ∃ v, vs = [v] ∧ fitV s v = true := by
  obtain ⟨v, r, rfl⟩ := fitL_cons h
  simp only [fitL, Bool.and_eq_true] at h
  cases r with
  | nil => exact ⟨v, rfl, h.1⟩
  | cons v r => simp [fitL] at h
theorem text_ok : SoundFn Tryd.prog 31 (fun args K => argF [.str] args fun a => K (.x (.int .i64 (text_R (gS (a.getD 0 .any))))) []) := by
  intro w A args us K hA ha hs
  unfold argF at hs
  cases hf : fitL [.str] (nzL [.str] args) with
  | false => rw [hf] at hs; exact hs.elim
  | true =>
    rw [hf] at hs
    simp only [cond_true] at hs
    have hr := nzL_rel [.str] args _ ha
    generalize nzL [.str] args = vs at hf hr hs
    obtain ⟨v0, rfl, hf1⟩ := fitL_one hf
    have e := fitV_eq _ _ hf1
    rw [e] at hr
    simp only [mkV, RelVs, RelV] at hr
    obtain ⟨u, us', hus, rfl, h4⟩ := hr
    have eus : us = #[.string (gS v0)] := by apply Array.ext'; rw [hus, h4]
    rw [eus]
    refine (text_calls (gS v0) w).mono ?_
    rintro e w' ⟨rfl, hB⟩
    obtain ⟨g1, g2⟩ := done_of hA hB
    exact ⟨_, V.x (.int .i64 (text_R (gS v0))), _, rfl, rfl, g1, g2, rfl, hs⟩
theorem strings_ok : SoundFn Tryd.prog 34 (fun args K => argF [.ro .str] args fun a => K (.tup [.x (.int .i64 (strings_R (gR .str (a.getD 0 .any))).1), .agg [.x (.int .i64 (strings_R (gR .str (a.getD 0 .any))).2.1), .x (.int .i64 (strings_R (gR .str (a.getD 0 .any))).2.2)]]) []) := by
  intro w A args us K hA ha hs
  unfold argF at hs
  cases hf : fitL [.ro .str] (nzL [.ro .str] args) with
  | false => rw [hf] at hs; exact hs.elim
  | true =>
    rw [hf] at hs
    simp only [cond_true] at hs
    have hr := nzL_rel [.ro .str] args _ ha
    generalize nzL [.ro .str] args = vs at hf hr hs
    obtain ⟨v0, rfl, hf1⟩ := fitL_one hf
    have e := fitV_eq _ _ hf1
    rw [e] at hr
    simp only [mkV, RelVs, RelV] at hr
    obtain ⟨u, us', hus, hro, h4⟩ := hr
    have hl : ∃ a cap, u = .slice a (gR .str v0).length cap ∧ ∀ i, i < (gR .str v0).length → ∃ b o, a = some ⟨b, o, none⟩ ∧ b < w.heap.size ∧ w.cell? ⟨b, o + i, none⟩ = some (.string ((gR .str v0).getD i ByteArray.empty)) := by
      generalize gR .str v0 = l at hro ⊢
      rcases hro with ⟨hu, hx⟩ | ⟨b, o, sp, cap, hu, hsp, hcap, hy⟩
      · subst hx
        exact ⟨none, 0, by simpa using hu, fun i hi => absurd hi (Nat.not_lt_zero _)⟩
      · refine ⟨some ⟨b, o, sp⟩, cap, by simpa using hu, fun i hi => ?_⟩
        have hne : l ≠ [] := by rintro rfl; exact absurd hi (Nat.not_lt_zero _)
        obtain rfl := hsp hne
        obtain ⟨cs, h1, h2, h3⟩ := hy i _ (List.getElem?_eq_getElem hi)
        have h2' : cs = [.string l[i]] := h2
        subst h2'
        obtain ⟨h5, h6⟩ := h3 0 _ rfl
        have hs1 : Ty.str.size = 1 := rfl
        rw [hs1, Nat.mul_one, Nat.add_zero] at h5 h6
        refine ⟨b, o, rfl, hA _ _ h6, ?_⟩
        exact h5.trans (congrArg (fun x => some (Value.string x)) (getD_str l hi).symm)
    obtain ⟨a, cap, rfl, hcell⟩ := hl
    have eus : us = #[.slice a (gR .str v0).length cap] := by apply Array.ext'; rw [hus, h4]
    rw [eus]
    refine (strings_calls (gR .str v0) a cap w hcell).mono ?_
    rintro e w' ⟨rfl, hB⟩
    obtain ⟨g1, g2⟩ := done_of hA hB
    refine ⟨_, V.tup [.x (.int .i64 (strings_R (gR .str v0)).1), .agg [.x (.int .i64 (strings_R (gR .str v0)).2.1), .x (.int .i64 (strings_R (gR .str v0)).2.2)]], _, rfl, rfl, g1, g2, ?_, hs⟩
    simp only [RelV, RelVs]
    exact ⟨_, rfl, _, _, rfl, rfl, _, _, rfl, ⟨_, rfl, _, _, rfl, rfl, _, _, rfl, rfl, rfl⟩, rfl⟩
end Dg
end Go.Proofs.YtkpplfghhciacaaDoor

/-
  Operations that change memory or call, as one table on abstract values, with its soundness. Conditions: none.
-/
import Derived.Test.YtkpplfghhciacaaDoorEngGc
set_option linter.unusedVariables false
set_option linter.unusedSimpArgs false
namespace Go.Proofs.YtkpplfghhciacaaDoor
namespace Eng
open Go.RowKit

/-- Rows of the run's own among these values are laid open for reading. -/
def frzs : List V → List Ob → List V × List Ob
  | [], st => ([], st)
  | .vec r :: vs, st => match st[r]? with
    | some (.vec t _ xs) => (.ro t xs :: (frzs vs (st.set r (.vec t xs.length xs))).1, (frzs vs (st.set r (.vec t xs.length xs))).2)
    | _ => (.any :: (frzs vs st).1, (frzs vs st).2)
  | .vw r lo n :: vs, st => match st[r]? with
    | some (.vec t _ xs) => (.ro t ((xs.drop lo).take n) :: (frzs vs (st.set r (.vec t xs.length xs))).1, (frzs vs (st.set r (.vec t xs.length xs))).2)
    | _ => (.any :: (frzs vs st).1, (frzs vs st).2)
  | v :: vs, st => (v :: (frzs vs st).1, (frzs vs st).2)

theorem frzs_sound {w0 : Base} : ∀ {vs : List V} {c : Cfg}, Rel w0 c → ∃ c', c'.w = c.w ∧ c'.st = (frzs vs c.st).2 ∧ Rel w0 c' ∧ Ext c c' ∧ ∀ us, RelVs c vs us → RelVs c' (frzs vs c.st).1 us
  | [], c, hr => ⟨c, rfl, rfl, hr, Ext.refl c, fun us h => h⟩
  | v :: vs, c, hr => by
    have plain : ∀ w : V, (∀ u, RelV c v u → RelV c w u) → ∃ c', c'.w = c.w ∧ c'.st = (frzs vs c.st).2 ∧ Rel w0 c' ∧ Ext c c' ∧ ∀ us, RelVs c (v :: vs) us → RelVs c' (w :: (frzs vs c.st).1) us := by
      intro w hw
      obtain ⟨c', h1, h2, h3, h4, h5⟩ := frzs_sound (vs := vs) hr
      refine ⟨c', h1, h2, h3, h4, fun us h => ?_⟩
      simp only [RelVs] at h
      obtain ⟨u, us', rfl, h6, h7⟩ := h
      exact RelVs.cons (RelV.ext h4 _ _ (hw u h6)) (h5 us' h7)
    cases v with
    | vec r =>
      simp only [frzs]
      split
      · next t f xs hst =>
        obtain ⟨g1, g2, g3⟩ := frz_rel hr hst
        obtain ⟨c', h1, h2, h3, h4, h5⟩ := frzs_sound (vs := vs) g1
        refine ⟨c', h1, h2, h3, g2.trans h4, fun us h => ?_⟩
        simp only [RelVs] at h
        obtain ⟨u, us', rfl, h6, h7⟩ := h
        exact RelVs.cons (RelV.ext h4 _ _ (g3 u h6)) (h5 us' (RelVs.ext g2 _ _ h7))
      · exact plain .any fun u _ => by simp only [RelV]
    | vw r lo n =>
      simp only [frzs]
      split
      · next t f xs hst =>
        obtain ⟨g1, g2, g3⟩ := frz_rel hr hst
        obtain ⟨c', h1, h2, h3, h4, h5⟩ := frzs_sound (vs := vs) g1
        refine ⟨c', h1, h2, h3, g2.trans h4, fun us h => ?_⟩
        simp only [RelVs] at h
        obtain ⟨u, us', rfl, h6, h7⟩ := h
        exact RelVs.cons (RelV.ext h4 _ _ (vw_frz hr hst h6)) (h5 us' (RelVs.ext g2 _ _ h7))
      · exact plain .any fun u _ => by simp only [RelV]
    | _ => exact plain _ fun u h => h

theorem frzs_len : ∀ (vs : List V) (st : List Ob), (frzs vs st).1.length = vs.length
  | [], _ => rfl
  | v :: vs, st => by
    cases v <;> simp only [frzs] <;> first | (split <;> simp [frzs_len vs]) | simp [frzs_len vs]

/-- May this function be entered? -/
def callable (P : Program) (f : FuncId) : Bool :=
  match P.funcs[f]? with
  | some fn => (fn.name != "runtime.NumGoroutine") && fn.body.isSome
  | none => false

abbrev Caller := FuncId → List V → List Ob → (V → List Ob → Prop) → Prop

/-- The calls that a caller describes go as it says. -/
def SoundC (P : Program) (C : Caller) : Prop :=
  ∀ (w0 : Base) (c : Cfg) (f : FuncId) (args : List V) (us : Array Value) (K : V → List Ob → Prop), Rel w0 c → RelVs c args us.toList → C f args c.st K →
    Calls P f us c.w fun e w' => ∃ u v c', e = .returned u ∧ c'.w = w' ∧ Rel w0 c' ∧ Ext c c' ∧ RelV c' v u ∧ K v c'.st

def astoreT (P : Program) (st : List Ob) (t : TypeId) (a x : V) : Option (List Ob) :=
  match P.info? t, vcells x with
  | some i, some vs => if vs.length = i.size then
      match a with
      | .cl r j => match st[r]? with
        | some (.cells cs) => if j + vs.length ≤ cs.length then (if vs.all one = true then some (st.set r (.cells (splice cs j vs))) else none) else none
        | _ => none
      | .el r j k => match (frzs vs st).2[r]? with
        | some (.vec τ 0 xs) => match dec τ (splice (enc τ (xs.getD j τ.dflt)) k (frzs vs st).1) with
          | some (y, []) => if k + vs.length ≤ τ.size then (if vs.all one = true then some ((frzs vs st).2.set r (.vec τ 0 (xs.set j y))) else none) else none
          | _ => none
        | _ => none
      | _ => none
    else none
  | _, _ => none

/-- A cell of an index that is not known is written, among cells of one kind. -/
def setI (k : IntKind) (i : Nat) (v : Int) : Nat → List V → List V
  | m, .x (.int k' n) :: r => if k' = k then .x (.int k (bif Nat.beq i m then v else n)) :: setI k i v (m + 1) r else .x (.int k' n) :: r
  | _, l => l
def setB (i : Nat) (v : Bool) : Nat → List V → List V
  | m, .x (.bool n) :: r => .x (.bool (bif Nat.beq i m then v else n)) :: setB i v (m + 1) r
  | _, l => l
def setH (i : Nat) (v : Hd) : Nat → List V → List V
  | m, .hd n :: r => .hd (bif Nat.beq i m then v else n) :: setH i v (m + 1) r
  | m, .x (.slice none 0 0) :: r => .hd (bif Nat.beq i m then v else Hd.nil) :: setH i v (m + 1) r
  | _, l => l
def putAt (i : Nat) (x : V) (cs : List V) : Option (Prop × List V) := match x with
  | .x (.int k v) => some (i < (rnI k cs).length, setI k i v 0 cs)
  | .x (.bool v) => some (i < (rnB cs).length, setB i v 0 cs)
  | .hd v => some (i < (rnH cs).length, setH i v 0 cs)
  | _ => none
def estoreT (P : Program) (st : List Ob) (t : TypeId) (a x : V) : Option (Option Prop × List Ob) := match a with
  | .el r i j => match st[r]? with
    | some (.cells cs) => match P.info? t, putAt i x (cs.drop j) with
      | some inf, some (q, ds) => if inf.size = 1 then some (some q, st.set r (.cells (cs.take j ++ ds))) else none
      | _, _ => none
    | _ => none
  | _ => none

def aappend (P : Program) (st : List Ob) (ts : List TypeId) (sv xv : V) : Option (Option Prop × V × List Ob) :=
  match ts with
  | sT :: xT :: _ => match P.underlying sT with
    | some (.slice e) => match tyP P st e with
      | some t => if sliceArg P xT = true then if elemOk P e t = true then
          match atarget st t sv, arows st t xv with
          | some (xs, f), some ys => some (some (fits (xs.length + ys.length)), .vec st.length, killO sv st ++ [.vec t f (xs ++ ys)])
          | _, _ => none
        else none else none
      | none => none
    | _ => none
  | _ => none

def amake (P : Program) (st : List Ob) (t : TypeId) (l c : V) : Option (Option Prop × V × List Ob) :=
  match P.underlying t, l, c with
  | some (.slice e), .x (.int _ n), .x (.int _ m) => match tyP P st e, zeroV P e with
    | some τ, some zs => if elemOk P e τ = true then match dec τ zs with
        | some (z, []) => some (some (0 ≤ n ∧ n ≤ m ∧ m ≤ 1073741824), .vec st.length, st ++ [.vec τ 0 (List.replicate n.toNat z)])
        | _ => none
      else none
    | _, _ => none
  | _, _, _ => none

def abuildSlice (P : Program) (st : List Ob) (t : TypeId) (len : Nat) (parts : List (Nat × V)) : Option (V × List Ob) :=
  match P.underlying t with
  | some (.slice e) => match tyP P st e, zeroV P e with
    | some τ, some zs => if elemOk P e τ = true then if len * τ.size ≤ 16777216 then
        match afill (fun i => some (i * τ.size, τ.size)) (List.replicate len zs).flatten parts with
        | some cs => match decRows τ len (frzs cs st).1 with
          | some ys => some (.vec (frzs cs st).2.length, (frzs cs st).2 ++ [.vec τ 0 ys])
          | none => none
        | none => none
      else none else none
    | _, _ => none
  | _ => none

/-- Zeroes in a part of a row. -/
def aclear (P : Program) (st : List Ob) (t : TypeId) (x : V) : Option (List Ob) :=
  match P.underlying t, x with
  | some (.slice e), .vw r lo n => match st[r]?, zeroV P e with
    | some (.vec τ 0 xs), some zs => if elemOk P e τ = true then match dec τ zs with
        | some (z, []) => some (st.set r (.vec τ 0 (xs.take lo ++ List.replicate n z ++ xs.drop (lo + n))))
        | _ => none
      else none
    | _, _ => none
  | _, _ => none

def andO (p : Option Prop) (q : Prop) : Prop := match p with
  | none => q
  | some p => p ∧ q

def storeK (P : Program) (st : List Ob) (t : TypeId) (a x : V) (k : V → List Ob → Prop) : Prop := match astoreT P st t a x with
  | some st' => k .any st'
  | none => False

/-- What an operation does to memory, and what a call does. -/
def aeff (P : Program) (C : Caller) (st : List Ob) (fs : Facts) (ρ : Facts → Operand → V) (o : Op) (k : V → List Ob → Prop) : Prop :=
  match o with
  | .pick (.tmp s) a b => match ρ fs (.tmp s) with
    | .x (.bool t) => bif t then k (ρ ((s, true) :: fs) a) st else k (ρ ((s, false) :: fs) b) st
    | _ => False
  | .alloc t => match zeroV P t with
    | some cs => k (.cl st.length 0) (st ++ [.cells cs])
    | none => False
  | .box _ x => match vcells (ρ fs x) with
    | some cs => k (.cl st.length 0) (st ++ [.cells cs])
    | none => False
  | .buildSlice t len parts => match abuildSlice P st t len (parts.toList.map fun p => (p.1, ρ fs p.2)) with
    | some (v, st') => k v st'
    | none => False
  | .makeSlice t l c => match amake P st t (ρ fs l) (ρ fs c) with
    | some (p, v, st') => andO p (k v st')
    | none => False
  | .store t a x => match adoptQ st (ρ fs a) (ρ fs x) with
    | some (r, p, m, xs) => (xs = ([] : List Int) → storeK P (st.set r .dead) t (ρ fs a) (.x (.slice none 0 0)) k) ∧
        ∀ b cap : Nat, pfind m b = none → xs.length ≤ cap → storeK P ((st.set r .dead).set p (.pool ((b, (xs, cap)) :: m))) t (ρ fs a) (.hd ⟨some ⟨b, 0, none⟩, xs.length, cap⟩) k
    | none => match astoreT P st t (ρ fs a) (ρ fs x) with
      | some st' => k .any st'
      | none => match pstoreT P st t (ρ fs a) (ρ fs x) with
        | some (p, st') => andO p (k .any st')
        | none => match estoreT P st t (ρ fs a) (ρ fs x) with
          | some (p, st') => andO p (k .any st')
          | none => False
  | .call { callee := .builtin .append, args, argTypes } => match args.toList with
    | [a, b] => match aappend P st argTypes.toList (ρ fs a) (ρ fs b) with
      | some (p, v, st') => andO p (k v st')
      | none => pappK P st argTypes.toList (ρ fs a) (ρ fs b) k
    | _ => False
  | .call { callee := .builtin .clear, args, argTypes } => match args.toList, argTypes.toList with
    | [a], [t] => match aclear P st t (ρ fs a) with
      | some st' => k (.tup []) st'
      | none => match pclear P st t (ρ fs a) with
        | some (p, st') => andO p (k (.tup []) st')
        | none => False
    | _, _ => False
  | .call { callee := .value f, args, argTypes := _ } => match ρ fs f with
    | .fn (.func g) first captured => if callable P g = true then C g (first ++ args.toList.map (ρ fs) ++ captured) st k else False
    | _ => False
  | _ => False

end Eng
end Go.Proofs.YtkpplfghhciacaaDoor

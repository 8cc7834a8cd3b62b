/-
  Operations that change memory or call, as one table on abstract values, with its soundness. Conditions: none.
-/
import Derived.Test.YtmfdikjeijnlmaaEngG
namespace Go.Proofs.Ytmfdikjeijnlmaa
namespace Eng
open Go.RowKit

/-- The plain type of a Go type. -/
def tyFs (rec : TypeId → Option Ty) : List Field → Option Ty
  | [] => some .unit
  | [f] => rec f.type
  | f :: fs => match rec f.type, tyFs rec fs with
    | some a, some b => some (.pair a b)
    | _, _ => none

def tyRep (t : Ty) : Nat → Ty
  | 0 => .unit
  | 1 => t
  | n + 1 => .pair t (tyRep t n)

def tyOf (P : Program) : Nat → TypeId → Option Ty
  | 0, _ => none
  | n + 1, t => match P.underlying t with
    | some (.int k) => some (.int k)
    | some .bool => some .bool
    | some .string => some .str
    | some (.slice e) => match tyOf P n e with
      | some τ => some (.slice τ)
      | none => none
    | some (.struct fs) => tyFs (tyOf P n) fs.toList
    | some (.array k e) => match tyOf P n e with
      | some τ => some (tyRep τ k)
      | none => none
    | _ => none

/-- Rows of the run's own among these values are laid open for reading. -/
def frzs : List V → List Ob → List V × List Ob
  | [], st => ([], st)
  | .vec r :: vs, st => match st[r]? with
    | some (.vec t _ xs) => (.ro t xs :: (frzs vs (st.set r (.vec t xs.length xs))).1, (frzs vs (st.set r (.vec t xs.length xs))).2)
    | _ => (.any :: (frzs vs st).1, (frzs vs st).2)
  | v :: vs, st => (v :: (frzs vs st).1, (frzs vs st).2)

theorem frzs_sound {w0 : Base} : ∀ {vs : List V} {c : Cfg}, Rel w0 c → ∃ c', c'.w = c.w ∧ c'.st = (frzs vs c.st).2 ∧ Rel w0 c' ∧ Ext c c' ∧ ∀ us, RelVs c vs us → RelVs c' (frzs vs c.st).1 us
  | [], c, hr => ⟨c, rfl, rfl, hr, Ext.refl c, fun us h => h⟩
  | v :: vs, c, hr => by
    have plain : ∀ w : V, (∀ u, RelV c v u → RelV c w u) → ∃ c', c'.w = c.w ∧ c'.st = (frzs vs c.st).2 ∧ Rel w0 c' ∧ Ext c c' ∧ ∀ us, RelVs c (v :: vs) us → RelVs c' (w :: (frzs vs c.st).1) us := by
      intro w hw
      obtain ⟨c', h1, h2, h3, h4, h5⟩ := frzs_sound (vs := vs) hr
      refine ⟨c', h1, h2, h3, h4, fun us h => ?_⟩
      simp only [RelVs] at h
      obtain ⟨u, us', rfl, h6, h7⟩ := h
      exact RelVs.cons (RelV.ext h4 _ _ (hw u h6)) (h5 us' h7)
    cases v with
    | vec r =>
      simp only [frzs]
      split
      · next t f xs hst =>
        obtain ⟨g1, g2, g3⟩ := frz_rel hr hst
        obtain ⟨c', h1, h2, h3, h4, h5⟩ := frzs_sound (vs := vs) g1
        refine ⟨c', h1, h2, h3, g2.trans h4, fun us h => ?_⟩
        simp only [RelVs] at h
        obtain ⟨u, us', rfl, h6, h7⟩ := h
        exact RelVs.cons (RelV.ext h4 _ _ (g3 u h6)) (h5 us' (RelVs.ext g2 _ _ h7))
      · exact plain .any fun u _ => by simp only [RelV]
    | _ => exact plain _ fun u h => h

theorem frzs_len : ∀ (vs : List V) (st : List Ob), (frzs vs st).1.length = vs.length
  | [], _ => rfl
  | v :: vs, st => by
    cases v <;> simp only [frzs] <;> first | (split <;> simp [frzs_len vs]) | simp [frzs_len vs]

def decRows (t : Ty) : Nat → List V → Option (List t.den)
  | 0, [] => some []
  | 0, _ :: _ => none
  | n + 1, l => match dec t l with
    | some (y, r) => match decRows t n r with
      | some ys => some (y :: ys)
      | none => none
    | none => none

theorem decRows_sound {c : Cfg} {t : Ty} : ∀ {n : Nat} {l : List V} {ys : List t.den} {us : List Value}, decRows t n l = some ys → RelVs c l us →
    ys.length = n ∧ us.length = n * t.size ∧ RowsR (RoV c.w c.A t) t.size ys us
  | 0, [], ys, us, h, hr => by
    simp only [decRows, Option.some.injEq] at h; subst h
    simp only [RelVs] at hr; subst hr
    exact ⟨rfl, by simp, fun i y hy => by simp at hy⟩
  | 0, _ :: _, ys, us, h, hr => by simp [decRows] at h
  | n + 1, l, ys, us, h, hr => by
    simp only [decRows] at h
    split at h
    · next y r hd =>
      split at h
      · next ys' hys =>
        cases h
        obtain ⟨us1, us2, rfl, h1, h2⟩ := dec_sound hd hr
        obtain ⟨h3, h4, h5⟩ := decRows_sound hys h2
        have hl1 := h1.size
        refine ⟨by simp [h3], by rw [List.length_append, hl1, h4, Nat.add_mul]; omega, ?_⟩
        intro i z hz
        cases i with
        | zero =>
          simp only [List.getElem?_cons_zero, Option.some.injEq] at hz
          subst hz
          rw [Nat.zero_mul, List.drop_zero, ← hl1, List.take_left]
          exact h1
        | succ i =>
          have := h5 i z (by simpa using hz)
          rw [show (i + 1) * t.size = us1.length + i * t.size from by rw [Nat.add_mul, hl1]; omega, ← List.drop_drop, List.drop_left]
          exact this
      · cases h
    · cases h

/-- May this function be entered? -/
def callable (P : Program) (f : FuncId) : Bool :=
  match P.funcs[f]? with
  | some fn => (fn.name != "runtime.NumGoroutine") && fn.body.isSome
  | none => false

abbrev Caller := FuncId → List V → List Ob → (V → List Ob → Prop) → Prop

/-- The calls that a caller describes go as it says. -/
def SoundC (P : Program) (C : Caller) : Prop :=
  ∀ (w0 : Base) (c : Cfg) (f : FuncId) (args : List V) (us : Array Value) (K : V → List Ob → Prop), Rel w0 c → RelVs c args us.toList → C f args c.st K →
    Calls P f us c.w fun e w' => ∃ u v c', e = .returned u ∧ c'.w = w' ∧ Rel w0 c' ∧ Ext c c' ∧ RelV c' v u ∧ K v c'.st

def astoreT (P : Program) (st : List Ob) (t : TypeId) (a x : V) : Option (List Ob) :=
  match P.info? t, vcells st x with
  | some i, some vs => if vs.length = i.size then
      match a with
      | .cl r j => match st[r]? with
        | some (.cells cs) => if j + vs.length ≤ cs.length then (if vs.all (one st) = true then some (st.set r (.cells (splice cs j vs))) else none) else none
        | _ => none
      | .el r j k => match (frzs vs st).2[r]? with
        | some (.vec τ 0 xs) => match dec τ (splice (enc τ (xs.getD j τ.dflt)) k (frzs vs st).1) with
          | some (y, []) => if k + vs.length ≤ τ.size then (if vs.all (one st) = true then some ((frzs vs st).2.set r (.vec τ 0 (xs.set j y))) else none) else none
          | _ => none
        | _ => none
      | _ => none
    else none
  | _, _ => none

def aappend (P : Program) (st : List Ob) (ts : List TypeId) (sv xv : V) : Option (Option Prop × V × List Ob) :=
  match ts with
  | sT :: xT :: _ => match P.underlying sT with
    | some (.slice e) => match tyOf P 20 e with
      | some t => if sliceArg P xT = true then if elemOk P e t = true then
          match atarget st t sv, arows st t xv with
          | some (xs, f), some ys => some (some (fits (xs.length + ys.length)), .vec st.length, killO sv st ++ [.vec t f (xs ++ ys)])
          | _, _ => none
        else none else none
      | none => none
    | _ => none
  | _ => none

def amake (P : Program) (st : List Ob) (t : TypeId) (l c : V) : Option (Option Prop × V × List Ob) :=
  match P.underlying t, l, c with
  | some (.slice e), .x (.int _ n), .x (.int _ m) => match tyOf P 20 e, zeroV P e with
    | some τ, some zs => if elemOk P e τ = true then match dec τ zs with
        | some (z, []) => some (some (0 ≤ n ∧ n ≤ m ∧ m ≤ 1073741824), .vec st.length, st ++ [.vec τ 0 (List.replicate n.toNat z)])
        | _ => none
      else none
    | _, _ => none
  | _, _, _ => none

def abuildSlice (P : Program) (st : List Ob) (t : TypeId) (len : Nat) (parts : List (Nat × V)) : Option (V × List Ob) :=
  match P.underlying t with
  | some (.slice e) => match tyOf P 20 e, zeroV P e with
    | some τ, some zs => if elemOk P e τ = true then if len * τ.size ≤ 16777216 then
        match afill st (fun i => some (i * τ.size, τ.size)) (List.replicate len zs).flatten parts with
        | some cs => match decRows τ len (frzs cs st).1 with
          | some ys => some (.vec (frzs cs st).2.length, (frzs cs st).2 ++ [.vec τ 0 ys])
          | none => none
        | none => none
      else none else none
    | _, _ => none
  | _ => none

def andO (p : Option Prop) (q : Prop) : Prop := match p with
  | none => q
  | some p => p ∧ q

/-- What an operation does to memory, and what a call does. -/
def aeff (P : Program) (C : Caller) (st : List Ob) (fs : Facts) (ρ : Facts → Operand → V) (o : Op) (k : V → List Ob → Prop) : Prop :=
  match o with
  | .pick (.tmp s) a b => match ρ fs (.tmp s) with
    | .x (.bool t) => bif t then k (ρ ((s, true) :: fs) a) st else k (ρ ((s, false) :: fs) b) st
    | _ => False
  | .alloc t => match zeroV P t with
    | some cs => k (.cl st.length 0) (st ++ [.cells cs])
    | none => False
  | .box _ x => match vcells st (ρ fs x) with
    | some cs => k (.cl st.length 0) (st ++ [.cells cs])
    | none => False
  | .buildSlice t len parts => match abuildSlice P st t len (parts.toList.map fun p => (p.1, ρ fs p.2)) with
    | some (v, st') => k v st'
    | none => False
  | .makeSlice t l c => match amake P st t (ρ fs l) (ρ fs c) with
    | some (p, v, st') => andO p (k v st')
    | none => False
  | .store t a x => match astoreT P st t (ρ fs a) (ρ fs x) with
    | some st' => k .any st'
    | none => False
  | .slice t x lo hi none => match ρ fs x with
    | .vec r => match st[r]? with
      | some (.vec τ _ xs) => match aslice P t (.ro τ xs) (lo.map (ρ fs)) (hi.map (ρ fs)) with
        | some (p, v) => andO p (k v (st.set r (.vec τ xs.length xs)))
        | none => False
      | _ => False
    | _ => False
  | .call { callee := .builtin .append, args, argTypes } => match args.toList with
    | [a, b] => match aappend P st argTypes.toList (ρ fs a) (ρ fs b) with
      | some (p, v, st') => andO p (k v st')
      | none => False
    | _ => False
  | .call { callee := .value f, args, argTypes := _ } => match ρ fs f with
    | .fn (.func g) first captured => if callable P g = true then C g (first ++ args.toList.map (ρ fs) ++ captured) st k else False
    | _ => False
  | _ => False

end Eng
end Go.Proofs.Ytmfdikjeijnlmaa

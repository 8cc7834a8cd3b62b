/-
  Shapes of slots and objects, and how what stands in them is read off. Conditions: none.
-/
import Derived.Test.YtkpplfghhciacaaDoorEngU
set_option linter.unusedVariables false
set_option linter.unusedSimpArgs false
namespace Go.Proofs.YtkpplfghhciacaaDoor
namespace Eng
open Go.RowKit

/-- The shape of a value. -/
inductive Sh where
  | any
  | int (k : IntKind)
  | bool
  | str
  | nil
  | ro (t : Ty)
  | rc (l : List Sh) (j : Nat)
  | cl (r i : Nat)
  | el (r j : Nat)
  | vec (r : Nat)
  | vw (r : Nat)
  | agg (l : List Sh)
  | tup (l : List Sh)
  | fn (f : Nat) (a b : List Sh)
  | hd
  | pt

def gI : V → Int
  | .x (.int _ n) => n
  | _ => 0
def gB : V → Bool
  | .x (.bool b) => b
  | _ => false
def gS : V → ByteArray
  | .x (.string s) => s
  | _ => ByteArray.empty
def gR (t : Ty) : V → List t.den
  | .ro τ xs => if h : Ty.eqb τ t = true then Ty.eqb_eq h ▸ xs else []
  | _ => []
def gE : V → Nat
  | .el _ i _ => i
  | _ => 0
def gVl : V → Nat
  | .vw _ l _ => l
  | _ => 0
def gVn : V → Nat
  | .vw _ _ n => n
  | _ => 0
def gC : V → List V
  | .agg cs => cs
  | .tup cs => cs
  | .rc cs _ => cs
  | _ => []
def gFa : V → List V
  | .fn _ a _ => a
  | _ => []
def gFc : V → List V
  | .fn _ _ b => b
  | _ => []

def gH : V → Hd
  | .hd h => h
  | _ => Hd.nil
def gPa : V → Option Addr
  | .pt a _ => a
  | _ => none
def gPi : V → Nat
  | .pt _ i => i
  | _ => 0

def eqK (k k' : IntKind) : Bool := if k = k' then true else false

mutual
def fitV : Sh → V → Bool
  | .any, v => (match v with | .any => true | _ => false)
  | .int k, v => (match v with | .x (.int k' _) => eqK k' k | _ => false)
  | .bool, v => (match v with | .x (.bool _) => true | _ => false)
  | .str, v => (match v with | .x (.string _) => true | _ => false)
  | .nil, v => (match v with | .x (.slice none 0 0) => true | _ => false)
  | .ro t, v => (match v with | .ro τ _ => Ty.eqb τ t | _ => false)
  | .rc l j, v => (match v with | .rc cs j' => Nat.beq j' j && fitL l cs | _ => false)
  | .cl r i, v => (match v with | .cl r' i' => Nat.beq r' r && Nat.beq i' i | _ => false)
  | .el r j, v => (match v with | .el r' _ j' => Nat.beq r' r && Nat.beq j' j | _ => false)
  | .vec r, v => (match v with | .vec r' => Nat.beq r' r | _ => false)
  | .vw r, v => (match v with | .vw r' _ _ => Nat.beq r' r | _ => false)
  | .agg l, v => (match v with | .agg cs => fitL l cs | _ => false)
  | .tup l, v => (match v with | .tup cs => fitL l cs | _ => false)
  | .fn f a b, v => (match v with | .fn (.func f') x y => Nat.beq f' f && (fitL a x && fitL b y) | _ => false)
  | .hd, v => (match v with | .hd _ => true | _ => false)
  | .pt, v => (match v with | .pt _ _ => true | _ => false)
def fitL : List Sh → List V → Bool
  | [], l => (match l with | [] => true | _ => false)
  | s :: r, l => (match l with | v :: vs => fitV s v && fitL r vs | [] => false)
end

mutual
def mkV : Sh → V → V
  | .any, _ => .any
  | .int k, v => .x (.int k (gI v))
  | .bool, v => .x (.bool (gB v))
  | .str, v => .x (.string (gS v))
  | .nil, _ => .x (.slice none 0 0)
  | .ro t, v => .ro t (gR t v)
  | .rc l j, v => .rc (mkL l 0 (gC v)) j
  | .cl r i, _ => .cl r i
  | .el r j, v => .el r (gE v) j
  | .vec r, _ => .vec r
  | .vw r, v => .vw r (gVl v) (gVn v)
  | .agg l, v => .agg (mkL l 0 (gC v))
  | .tup l, v => .tup (mkL l 0 (gC v))
  | .fn f a b, v => .fn (.func f) (mkL a 0 (gFa v)) (mkL b 0 (gFc v))
  | .hd, v => .hd (gH v)
  | .pt, v => .pt (gPa v) (gPi v)
def mkL : List Sh → Nat → List V → List V
  | [], _, _ => []
  | s :: r, i, l => mkV s (l.getD i .any) :: mkL r (i + 1) l
end

theorem mkL_cons : ∀ (ss : List Sh) (i : Nat) (v : V) (l : List V), mkL ss (i + 1) (v :: l) = mkL ss i l
  | [], _, _, _ => by simp only [mkL]
  | s :: r, i, v, l => by
    simp only [mkL, List.getD_cons_succ]
    rw [mkL_cons r (i + 1) v l]

mutual
theorem fitV_eq : ∀ (s : Sh) (v : V), fitV s v = true → v = mkV s v
  | .any, v, h => by cases v <;> simp [fitV] at h; simp only [mkV]
  | .int k, v, h => by
    simp only [fitV] at h
    split at h
    · next k' n =>
      unfold eqK at h
      split at h
      · next e => subst e; simp only [mkV, gI]
      · cases h
    · cases h
  | .bool, v, h => by
    simp only [fitV] at h
    split at h
    · simp only [mkV, gB]
    · cases h
  | .str, v, h => by
    simp only [fitV] at h
    split at h
    · simp only [mkV, gS]
    · cases h
  | .nil, v, h => by
    simp only [fitV] at h
    split at h
    · simp only [mkV]
    · cases h
  | .ro t, v, h => by
    simp only [fitV] at h
    split at h
    · next τ xs =>
      have e := Ty.eqb_eq h
      subst e
      simp only [mkV, gR, h, dif_pos]
    · cases h
  | .rc l j, v, h => by
    simp only [fitV] at h
    split at h
    · next cs j' =>
      simp only [Bool.and_eq_true, Nat.beq_eq] at h
      simp only [mkV, gC]
      rw [← fitL_eq l cs h.2, h.1]
    · cases h
  | .cl r i, v, h => by
    simp only [fitV] at h
    split at h
    · simp only [Bool.and_eq_true, Nat.beq_eq] at h
      simp only [mkV, h.1, h.2]
    · cases h
  | .el r j, v, h => by
    simp only [fitV] at h
    split at h
    · simp only [Bool.and_eq_true, Nat.beq_eq] at h
      simp only [mkV, gE, h.1, h.2]
    · cases h
  | .vec r, v, h => by
    simp only [fitV] at h
    split at h
    · simp only [Nat.beq_eq] at h
      simp only [mkV, h]
    · cases h
  | .vw r, v, h => by
    simp only [fitV] at h
    split at h
    · simp only [Nat.beq_eq] at h
      simp only [mkV, gVl, gVn, h]
    · cases h
  | .agg l, v, h => by
    simp only [fitV] at h
    split at h
    · next cs => simp only [mkV, gC]; rw [← fitL_eq l cs h]
    · cases h
  | .tup l, v, h => by
    simp only [fitV] at h
    split at h
    · next cs => simp only [mkV, gC]; rw [← fitL_eq l cs h]
    · cases h
  | .fn f a b, v, h => by
    simp only [fitV] at h
    split at h
    · next f' x y =>
      simp only [Bool.and_eq_true, Nat.beq_eq] at h
      simp only [mkV, gFa, gFc]
      rw [← fitL_eq a x h.2.1, ← fitL_eq b y h.2.2, h.1]
    · cases h
  | .hd, v, h => by
    simp only [fitV] at h
    split at h
    · simp only [mkV, gH]
    · cases h
  | .pt, v, h => by
    simp only [fitV] at h
    split at h
    · simp only [mkV, gPa, gPi]
    · cases h
theorem fitL_eq : ∀ (ss : List Sh) (l : List V), fitL ss l = true → l = mkL ss 0 l
  | [], l, h => by
    simp only [fitL] at h
    split at h
    · simp only [mkL]
    · cases h
  | s :: r, l, h => by
    simp only [fitL] at h
    split at h
    · next v vs =>
      simp only [Bool.and_eq_true] at h
      simp only [mkL, List.getD_cons_zero]
      rw [mkL_cons r 0 v vs, ← fitV_eq s v h.1, ← fitL_eq r vs h.2]
    · cases h
end

/-- The shape of an object. -/
inductive OSh where
  | dead
  | cells (l : List Sh)
  | vec (t : Ty) (z : Bool)
  | pool

def oC : Ob → List V
  | .cells cs => cs
  | _ => []
/-- A number in a cell. -/
def cI (st : List Ob) (i j : Nat) : Int := gI ((oC (st.getD i .dead)).getD j .any)
/-- A number. -/
abbrev V.xi (n : Int) : V := .x (.int .i64 n)
def oF : Ob → Nat
  | .vec _ f _ => f
  | _ => 0
def oX (t : Ty) : Ob → List t.den
  | .vec τ _ xs => if h : Ty.eqb τ t = true then Ty.eqb_eq h ▸ xs else []
  | _ => []

def oM : Ob → Pool
  | .pool m => m
  | _ => []
def fitO : OSh → Ob → Bool
  | .dead, o => (match o with | .dead => true | _ => false)
  | .cells l, o => (match o with | .cells cs => fitL l cs | _ => false)
  | .vec t z, o => (match o with | .vec τ f _ => Ty.eqb τ t && (!z || Nat.beq f 0) | _ => false)
  | .pool, o => (match o with | .pool _ => true | _ => false)
def fitOs : List OSh → List Ob → Bool
  | [], l => (match l with | [] => true | _ => false)
  | s :: r, l => (match l with | v :: vs => fitO s v && fitOs r vs | [] => false)

def mkO : OSh → Ob → Ob
  | .dead, _ => .dead
  | .cells l, o => .cells (mkL l 0 (oC o))
  | .vec t z, o => .vec t (bif z then 0 else oF o) (oX t o)
  | .pool, o => .pool (oM o)

def mkOs : List OSh → Nat → List Ob → List Ob
  | [], _, _ => []
  | s :: r, i, l => mkO s (l.getD i .dead) :: mkOs r (i + 1) l

theorem mkOs_cons : ∀ (ss : List OSh) (i : Nat) (v : Ob) (l : List Ob), mkOs ss (i + 1) (v :: l) = mkOs ss i l
  | [], _, _, _ => by simp only [mkOs]
  | s :: r, i, v, l => by
    simp only [mkOs, List.getD_cons_succ]
    rw [mkOs_cons r (i + 1) v l]

theorem fitO_eq (s : OSh) (o : Ob) (h : fitO s o = true) : o = mkO s o := by
  cases s with
  | dead => cases o <;> simp [fitO] at h; simp only [mkO]
  | cells l =>
    simp only [fitO] at h
    split at h
    · next cs => simp only [mkO, oC]; rw [← fitL_eq l cs h]
    · cases h
  | vec t z =>
    simp only [fitO] at h
    split at h
    · next τ f xs =>
      simp only [Bool.and_eq_true] at h
      have e := Ty.eqb_eq h.1
      subst e
      simp only [mkO, oX, h.1, dif_pos]
      cases z with
      | false => rfl
      | true =>
        have hf : f = 0 := by simpa using h.2
        subst hf
        rfl
    · cases h
  | pool =>
    simp only [fitO] at h
    split at h
    · simp only [mkO, oM]
    · cases h

theorem fitOs_eq : ∀ (ss : List OSh) (l : List Ob), fitOs ss l = true → l = mkOs ss 0 l
  | [], l, h => by
    simp only [fitOs] at h
    split at h
    · simp only [mkOs]
    · cases h
  | s :: r, l, h => by
    simp only [fitOs] at h
    split at h
    · next v vs =>
      simp only [Bool.and_eq_true] at h
      simp only [mkOs, List.getD_cons_zero]
      rw [mkOs_cons r 0 v vs, ← fitO_eq s v h.1, ← fitOs_eq r vs h.2]
    · cases h

theorem mkOs_len : ∀ (ss : List OSh) (i : Nat) (l : List Ob), (mkOs ss i l).length = ss.length
  | [], _, _ => rfl
  | s :: r, i, l => by simp [mkOs, mkOs_len r]

/-- What is said of slots and objects of a shape. -/
def fitF (ss : List Sh) (os : List OSh) (vs : List V) (st : List Ob) (p : Prop) : Prop := bif fitL ss vs && fitOs os st then p else False

theorem fitF_out {ss : List Sh} {os : List OSh} {vs : List V} {st : List Ob} {p : Prop} (h : fitF ss os vs st p) : vs = mkL ss 0 vs ∧ st = mkOs os 0 st ∧ p := by
  unfold fitF at h
  cases h1 : fitL ss vs <;> cases h2 : fitOs os st <;> rw [h1, h2] at h <;> first | exact h.elim | skip
  exact ⟨fitL_eq _ _ h1, fitOs_eq _ _ h2, h⟩

theorem exMap {p q : Nat → Prop} (f : ∀ n, p n → q n) (h : ∃ n, p n) : ∃ n, q n := h.elim fun n hn => ⟨n, f n hn⟩

/-- From the one to the other; what stands inside is not looked into. -/
structure Imp (p q : Prop) : Prop where
  h : p → q

theorem Imp.of {p q b : Prop} (e : q = b) (h : p → b) : Imp p q := ⟨fun x => e ▸ h x⟩

theorem lift_ok {P : Program} {C : Caller} {D : List Oper → List V → List Ob → St → Prop} {d : LoopD} {len : Nat} {b : Code} {an : Ann} {ss : List Sh} {os : List OSh} {G : List V → List Ob → (Ex → St) → Prop} (hr : rising 0 d.keep = true) {N : Nat} (hrb : N ≤ d.rbase) (hk : AnnOk P C D N an b)
    (h : ∀ vs st K, G vs st K → ∃ n, iterL (stepL (exec P C D an b) d.base d K) n (bld d.keep (mkL ss 0 vs) 0 len) (mkOs os 0 st)) :
    AnnOk P C D N (.lift d len fun vs st K => fitF ss os vs st (G vs st K)) (.loop b) := by
  refine ⟨hrb, hr, an, hk, fun vs st K hf => ?_⟩
  obtain ⟨e1, e2, hn⟩ := fitF_out hf
  rw [e1, e2]
  exact h vs st K hn

theorem cut_ok {P : Program} {C : Caller} {D : List Oper → List V → List Ob → St → Prop} {d : CutD} {len : Nat} {x y : Code} {ax ay : Ann} {ss : List Sh} {os : List OSh} {G : List V → List Ob → (Ex → St) → Prop} (hr : rising 0 d.keep = true) {N : Nat} (hx : AnnOk P C D N ax x) (hb : N ≤ d.base) (hrb : N ≤ d.rbase) (hy : AnnOk P C D N ay y)
    (h : ∀ vs st K, Imp (G vs st K) (exec P C D ay y (bld d.keep (mkL ss 0 vs) 0 len) (mkOs os 0 st) (cutK d K))) :
    AnnOk P C D N (.cut ax d len fun vs st K => fitF ss os vs st (G vs st K)) (.seq x y) := by
  refine ⟨hx, hb, hrb, hr, ay, hy, fun vs st K hf => ?_⟩
  obtain ⟨e1, e2, hn⟩ := fitF_out hf
  rw [e1, e2]
  exact (h vs st K).h hn

mutual
/-- No rows at all are rows of any type. -/
def nzV : Sh → V → V
  | .ro t, v => (match v with | .x (.slice none 0 0) => .ro t [] | _ => v)
  | .agg l, v => (match v with | .agg cs => .agg (nzL l cs) | _ => v)
  | .rc l _, v => (match v with | .rc cs j => .rc (nzL l cs) j | _ => v)
  | _, v => v
def nzL : List Sh → List V → List V
  | [], l => l
  | s :: r, l => (match l with | v :: vs => nzV s v :: nzL r vs | [] => [])
end

mutual
theorem nzV_rel {c : Cfg} : ∀ (s : Sh) (v : V) (u : Value), RelV c v u → RelV c (nzV s v) u
  | .ro t, v, u, h => by
    simp only [nzV]
    split
    · simp only [RelV] at h ⊢
      subst h
      simp only [RoV]
      exact .inl ⟨rfl, rfl⟩
    · exact h
  | .agg l, v, u, h => by
    simp only [nzV]
    split
    · next cs =>
      simp only [RelV] at h ⊢
      obtain ⟨us, e, h1⟩ := h
      exact ⟨us, e, nzL_rel l cs _ h1⟩
    · exact h
  | .rc l j, v, u, h => by
    simp only [nzV]
    split
    · next cs j' =>
      simp only [RelV] at h ⊢
      obtain ⟨b, o, e, h1⟩ := h
      obtain ⟨us, g1, g2⟩ := RelC.list h1
      exact ⟨b, o, e, RelC.mk (nzL_rel l cs us g1) g2⟩
    · exact h
  | .any, v, u, h | .int _, v, u, h | .bool, v, u, h | .str, v, u, h | .nil, v, u, h | .cl _ _, v, u, h | .el _ _, v, u, h | .vec _, v, u, h | .vw _, v, u, h | .tup _, v, u, h | .fn _ _ _, v, u, h | .hd, v, u, h | .pt, v, u, h => by simpa only [nzV] using h
theorem nzL_rel {c : Cfg} : ∀ (ss : List Sh) (l : List V) (us : List Value), RelVs c l us → RelVs c (nzL ss l) us
  | [], l, us, h => by simpa only [nzL] using h
  | s :: r, l, us, h => by
    simp only [nzL]
    split
    · next v vs =>
      simp only [RelVs] at h ⊢
      obtain ⟨u, us', e, h1, h2⟩ := h
      exact ⟨u, us', e, nzV_rel s v u h1, nzL_rel r vs us' h2⟩
    · exact h
end

def argF (ss : List Sh) (args : List V) (k : List V → Prop) : Prop := bif fitL ss (nzL ss args) then k (nzL ss args) else False

theorem fn_ok {P : Program} {f : FuncId} {sem : SemF} {ss : List Sh} {G : List V → (V → List Ob → Prop) → Prop} (h : SoundFn P f sem) (he : ∀ args K, Imp (G args K) (sem (mkL ss 0 args) K)) : SoundFn P f (fun args K => argF ss args fun a => G a K) := by
  intro w A args us K hA ha hs
  unfold argF at hs
  cases h1 : fitL ss (nzL ss args) with
  | false => rw [h1] at hs; exact hs.elim
  | true =>
    rw [h1] at hs
    have e := fitL_eq _ _ h1
    have hr := nzL_rel ss args _ ha
    rw [e] at hr
    exact h w A _ us K hA hr ((he _ K).h hs)

/-- A function that calls itself: no fuel, no answer. -/
theorem fn_none {P : Program} {f : FuncId} {ss : List Sh} {G : List V → (V → List Ob → Prop) → Prop} (h : ∀ vs K, ¬ G vs K) : SoundFn P f (fun args K => argF ss args fun a => G a K) := by
  intro w A args us K hA ha hs
  unfold argF at hs
  cases h1 : fitL ss (nzL ss args) with
  | false => rw [h1] at hs; exact hs.elim
  | true => rw [h1] at hs; exact (h _ _ hs).elim

theorem fn_ex {P : Program} {f : FuncId} {ss : List Sh} {GR : Nat → List V → (V → List Ob → Prop) → Prop} {G : List V → (V → List Ob → Prop) → Prop} (h : ∀ fu, SoundFn P f (fun args K => argF ss args fun a => GR fu a K)) (he : ∀ vs K, G vs K → ∃ fu, GR fu vs K) :
    SoundFn P f (fun args K => argF ss args fun a => G a K) := by
  intro w A args us K hA ha hs
  unfold argF at hs
  cases h1 : fitL ss (nzL ss args) with
  | false => rw [h1] at hs; exact hs.elim
  | true =>
    rw [h1] at hs
    obtain ⟨fu, hg⟩ := he _ _ hs
    exact h fu w A args us K hA ha (by show argF ss args _; unfold argF; rw [h1]; exact hg)

/-- One more contract of a function, for arguments of a shape; else the contract that there was. -/
def ctxA (Γ : Ctx) (f : FuncId) (ss : List Sh) (G : List V → (V → List Ob → Prop) → Prop) : Ctx := fun g => if g = f then some fun args K => bif fitL ss (nzL ss args) then G (nzL ss args) K else (match Γ f with | some o => o args K | none => False) else Γ g

theorem ctxA_ok {P : Program} {Γ : Ctx} {f : FuncId} {ss : List Sh} {G : List V → (V → List Ob → Prop) → Prop} (h : SoundG P Γ) (hs : SoundFn P f (fun args K => argF ss args fun a => G a K)) : SoundG P (ctxA Γ f ss G) := by
  intro g sem hg
  unfold ctxA at hg
  split at hg
  · next e =>
    cases hg
    subst e
    intro w A args us K hA ha hk
    cases h1 : fitL ss (nzL ss args) with
    | true =>
      rw [h1] at hk
      exact hs w A args us K hA ha (by show argF ss args (fun a => G a K); unfold argF; rw [h1]; exact hk)
    | false =>
      rw [h1] at hk
      cases h2 : Γ g with
      | none => rw [h2] at hk; exact hk.elim
      | some o =>
        rw [h2] at hk
        exact h g o h2 w A args us K hA ha hk
  · exact h g sem hg

def argO (ss : List Sh) (os : List OSh) (args : List V) (st : List Ob) (k : List V → List Ob → Prop) : Prop := bif fitL ss args && fitOs os st then k args st else False

theorem fnO_ok {P : Program} {f : FuncId} {sem : SemO} {ss : List Sh} {os : List OSh} {G : List V → List Ob → (V → List Ob → Prop) → Prop} (h : SoundO P f sem) (he : ∀ args st K, Imp (G args st K) (sem (mkL ss 0 args) (mkOs os 0 st) K)) : SoundO P f (fun args st K => argO ss os args st fun a s => G a s K) := by
  intro w0 c args us K hr ha hs
  unfold argO at hs
  cases h1 : fitL ss args && fitOs os c.st with
  | false => rw [h1] at hs; exact hs.elim
  | true =>
    rw [h1] at hs
    simp only [Bool.and_eq_true] at h1
    have e1 := fitL_eq _ _ h1.1
    have e2 := fitOs_eq _ _ h1.2
    have := (he _ _ K).h hs
    rw [← e1, ← e2] at this
    exact h w0 c args us K hr ha this

theorem fnO_none {P : Program} {f : FuncId} {ss : List Sh} {os : List OSh} {G : List V → List Ob → (V → List Ob → Prop) → Prop} (h : ∀ vs st K, ¬ G vs st K) : SoundO P f (fun args st K => argO ss os args st fun a s => G a s K) := by
  intro w0 c args us K hr ha hs
  unfold argO at hs
  cases h1 : fitL ss args && fitOs os c.st with
  | false => rw [h1] at hs; exact hs.elim
  | true => rw [h1] at hs; exact (h _ _ _ hs).elim

theorem fnO_ex {P : Program} {f : FuncId} {ss : List Sh} {os : List OSh} {GR : Nat → List V → List Ob → (V → List Ob → Prop) → Prop} {G : List V → List Ob → (V → List Ob → Prop) → Prop} (h : ∀ fu, SoundO P f (fun args st K => argO ss os args st fun a s => GR fu a s K)) (he : ∀ vs st K, G vs st K → ∃ fu, GR fu vs st K) :
    SoundO P f (fun args st K => argO ss os args st fun a s => G a s K) := by
  intro w0 c args us K hr ha hs
  unfold argO at hs
  cases h1 : fitL ss args && fitOs os c.st with
  | false => rw [h1] at hs; exact hs.elim
  | true =>
    rw [h1] at hs
    obtain ⟨fu, hg⟩ := he _ _ _ hs
    exact h fu w0 c args us K hr ha (by show argO ss os args c.st _; unfold argO; rw [h1]; exact hg)

/-- One more contract of a function that is handed objects over, for arguments of a shape. -/
def ctxE (Δ : CtxO) (f : FuncId) (rs : List Rs) (ss : List Sh) (os : List OSh) (G : List V → List Ob → (V → List Ob → Prop) → Prop) : CtxO := fun g => if g = f then some (rs, fun args st K => bif fitL ss args && fitOs os st then G args st K else (match Δ f with | some o => o.2 args st K | none => False)) else Δ g

theorem ctxE_ok {P : Program} {Δ : CtxO} {f : FuncId} {rs : List Rs} {ss : List Sh} {os : List OSh} {G : List V → List Ob → (V → List Ob → Prop) → Prop} (h : SoundGO P Δ) (hs : SoundO P f (fun args st K => argO ss os args st fun a s => G a s K)) : SoundGO P (ctxE Δ f rs ss os G) := by
  intro g x hg
  unfold ctxE at hg
  split at hg
  · next e =>
    cases hg
    subst e
    intro w0 c args us K hr ha hk
    simp only at hk
    cases h1 : fitL ss args && fitOs os c.st with
    | true =>
      rw [h1] at hk
      exact hs w0 c args us K hr ha (by show argO ss os args c.st (fun a s => G a s K); unfold argO; rw [h1]; exact hk)
    | false =>
      rw [h1] at hk
      cases h2 : Δ g with
      | none => rw [h2] at hk; exact hk.elim
      | some o =>
        rw [h2] at hk
        exact h g o h2 w0 c args us K hr ha hk
  · exact h g x hg

end Eng
end Go.Proofs.YtkpplfghhciacaaDoor

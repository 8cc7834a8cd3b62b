/-
  The quiet operations of a program, as one table on abstract values, with its soundness. Conditions: none.
-/
import Derived.Test.YtkpplfghhciacaaDoorEngDa
set_option linter.unusedVariables false
set_option linter.unusedSimpArgs false
namespace Go.Proofs.YtkpplfghhciacaaDoor
namespace Eng
open Go.RowKit

abbrev Facts := List (Nat × Bool)

def alen (P : Program) (st : List Ob) (t : TypeId) (x : V) : Option Int :=
  match P.underlying t, x with
  | some (.slice _), .ro _ xs => some xs.length
  | some (.slice _), .vec r => match st[r]? with
    | some (.vec _ _ xs) => some xs.length
    | _ => none
  | some (.slice _), .vw r _ n => match st[r]? with
    | some (.vec _ _ _) => some n
    | _ => none
  | some (.slice _), .x (.slice none 0 0) => some 0
  | some (.slice _), .hd h => some h.n
  | some .string, .x (.string s) => some s.size
  | some (.array n _), _ => some n
  | _, _ => none

theorem alen_sound {P : Program} {w0 : Base} {c : Cfg} (hr : Rel w0 c) {t : TypeId} {x : V} {n : Int} {u : Value} {ts : Array TypeId} {ty : TypeId} {us : Array Value} (ht : ts[0]? = some t) (hus : us[0]? = some u)
    (h : alen P c.st t x = some n) (hx : RelV c x u) : (Builtin.len_ ts ty us).run P c.w = .ok (.int .i64 n) c.w := by
  unfold alen at h
  split at h
  · next e τ xs hu =>
    cases h
    simp only [RelV, RoV, SlV] at hx
    rcases hx with ⟨h1, rfl⟩ | ⟨b, o, sp, cap, h1, _⟩ <;> (simp only [List.cons.injEq, and_true] at h1; subst h1) <;> simp [Builtin.len_, ht, hus, run_underlying hu, goInt]
  · next e r hu =>
    split at h
    · next τ f xs hst =>
      cases h
      simp only [RelV, hst] at hx
      rcases hx with ⟨h1, rfl⟩ | ⟨b, cap, h1, rfl, _⟩
      · obtain ⟨_, _, ⟨_, rfl⟩ | ⟨b', ce, ty', cap, hb', _⟩⟩ := hr.obj r _ hst
        · simp [Builtin.len_, ht, hus, run_underlying hu, goInt]
        · rw [h1] at hb'; cases hb'
      · simp [Builtin.len_, ht, hus, run_underlying hu, goInt]
    · cases h
  · next e r lo m hu =>
    split at h
    · next τ f xs hst =>
      cases h
      simp only [RelV, hst] at hx
      obtain ⟨hlo, ⟨h1, rfl⟩ | ⟨b, cap, h1, rfl, hcap, _⟩ | ⟨h0, _, a, rfl⟩⟩ := hx
      · obtain ⟨_, _, ⟨_, rfl⟩ | ⟨b', ce, ty', cap, hb', _⟩⟩ := hr.obj r _ hst
        · have : m = 0 := by simp at hlo; omega
          subst this
          simp [Builtin.len_, ht, hus, run_underlying hu, goInt]
        · rw [h1] at hb'; cases hb'
      · simp [Builtin.len_, ht, hus, run_underlying hu, goInt]
      · subst h0
        simp [Builtin.len_, ht, hus, run_underlying hu, goInt]
    · cases h
  · next e hu =>
    cases h
    simp only [RelV] at hx
    subst hx
    simp [Builtin.len_, ht, hus, run_underlying hu, goInt]
  · next e h hu =>
    cases h
    simp only [RelV] at hx
    subst hx
    simp [Builtin.len_, ht, hus, run_underlying hu, goInt, Hd.val]
  · next s hu =>
    cases h
    simp only [RelV] at hx
    subst hx
    simp [Builtin.len_, ht, hus, run_underlying hu, goInt]
  · next n e hu =>
    cases h
    simp [Builtin.len_, ht, hus, run_underlying hu, goInt]
  · cases h

/-- Go's min and max of integers. -/
def afold (f : Int → Int → Int) : Int → List V → Option Int
  | a, [] => some a
  | a, .x (.int _ b) :: r => afold f (f a b) r
  | _, _ => none

def amx (a b : Int) : Int := if b > a then b else a
def amn (a b : Int) : Int := if b < a then b else a

theorem afold_max {P : Program} {c : Cfg} : ∀ {l : List V} {us : List Value} {k : IntKind} {a n : Int}, afold amx a l = some n → RelVs c l us →
    (us.foldlM Builtin.max2 (.int k a)).run P c.w = .ok (.int k n) c.w
  | [], us, k, a, n, h, hr => by
    simp only [afold, Option.some.injEq] at h; subst h
    simp only [RelVs] at hr; subst hr
    rfl
  | v :: l, us, k, a, n, h, hr => by
    simp only [RelVs] at hr
    obtain ⟨u, us', rfl, h1, h2⟩ := hr
    cases v with
    | x w =>
      cases w with
      | int k' b =>
        simp only [RelV] at h1; subst h1
        simp only [afold] at h
        have := afold_max (P := P) (k := k) h h2
        simp only [List.foldlM_cons, Builtin.max2, Sem.run_bind, Sem.run_pure, Result.andThen_ok]
        exact this
      | _ => simp [afold] at h
    | _ => simp [afold] at h

theorem afold_min {P : Program} {c : Cfg} : ∀ {l : List V} {us : List Value} {k : IntKind} {a n : Int}, afold amn a l = some n → RelVs c l us →
    (us.foldlM Builtin.min2 (.int k a)).run P c.w = .ok (.int k n) c.w
  | [], us, k, a, n, h, hr => by
    simp only [afold, Option.some.injEq] at h; subst h
    simp only [RelVs] at hr; subst hr
    rfl
  | v :: l, us, k, a, n, h, hr => by
    simp only [RelVs] at hr
    obtain ⟨u, us', rfl, h1, h2⟩ := hr
    cases v with
    | x w =>
      cases w with
      | int k' b =>
        simp only [RelV] at h1; subst h1
        simp only [afold] at h
        have := afold_min (P := P) (k := k) h h2
        simp only [List.foldlM_cons, Builtin.min2, Sem.run_bind, Sem.run_pure, Result.andThen_ok]
        exact this
      | _ => simp [afold] at h
    | _ => simp [afold] at h

def aconv (P : Program) (src dst : TypeId) (x : V) : Option V :=
  match P.underlying src, P.underlying dst, x with
  | some (.int _), some (.int k), .x (.int _ n) => some (.x (.int k (k.wrap n)))
  | some .string, some .string, .x (.string s) => some (.x (.string s))
  | _, _, _ => none

def aun (op : UnOp) (x : V) : Option V :=
  match op, x with
  | .neg, .x (.int k n) => some (.x (.int k (k.wrap (-n))))
  | .not, .x (.bool b) => some (.x (.bool !b))
  | _, _ => none

def anil (x : V) : Option V :=
  match x with
  | .rc cs j => some (.rc cs j)
  | .cl r i => some (.cl r i)
  | .el r i j => some (.el r i j)
  | .pt a i => some (.pt a i)
  | .fn (.func f) a b => some (.fn (.func f) a b)
  | _ => none

def abi (P : Program) (st : List Ob) (b : Builtin) (ts : List TypeId) (xs : List V) : Option V :=
  match b, ts, xs with
  | .len, t :: _, x :: _ => match alen P st t x with
    | some n => some (.x (.int .i64 n))
    | none => none
  | .max, _, .x (.int k a) :: r => match afold amx a r with
    | some n => some (.x (.int k n))
    | none => none
  | .min, _, .x (.int k a) :: r => match afold amn a r with
    | some n => some (.x (.int k n))
    | none => none
  | _, _, _ => none

theorem abi_sound {P : Program} {w0 : Base} {c : Cfg} (hr : Rel w0 c) {b : Builtin} {ts : Array TypeId} {ty : TypeId} {cs : Array Bool} {xs : List V} {us : Array Value} {v : V}
    (h : abi P c.st b ts.toList xs = some v) (hx : RelVs c xs us.toList) : ∃ u, (builtin b ts ty cs us).run P c.w = .ok (.value u) c.w ∧ RelV c v u := by
  unfold abi at h
  split at h
  · next t r x r' hts =>
    split at h
    · next n hn =>
      cases h
      simp only [RelVs] at hx
      obtain ⟨u, us', he, h1, _⟩ := hx
      have ht : ts[0]? = some t := by rw [← Array.getElem?_toList, hts]; rfl
      have hu : us[0]? = some u := by rw [← Array.getElem?_toList, he]; rfl
      exact ⟨.int .i64 n, by simp only [builtin, Sem.run_bind, alen_sound hr ht hu hn h1, Result.andThen_ok, Sem.run_pure], by simp only [RelV]⟩
    · cases h
  · next k a r =>
    split at h
    · next n hn =>
      cases h
      simp only [RelVs] at hx
      obtain ⟨u, us', he, h1, h2⟩ := hx
      simp only [RelV] at h1
      subst h1
      have h3 := afold_max (P := P) (k := k) hn h2
      exact ⟨.int k n, by simp only [builtin, Builtin.max_, he, Sem.run_bind, h3, Result.andThen_ok, Sem.run_pure], by simp only [RelV]⟩
    · cases h
  · next k a r =>
    split at h
    · next n hn =>
      cases h
      simp only [RelVs] at hx
      obtain ⟨u, us', he, h1, h2⟩ := hx
      simp only [RelV] at h1
      subst h1
      have h3 := afold_min (P := P) (k := k) hn h2
      exact ⟨.int k n, by simp only [builtin, Builtin.min_, he, Sem.run_bind, h3, Result.andThen_ok, Sem.run_pure], by simp only [RelV]⟩
    · cases h
  · cases h

/-- One way or the other, by a bool. -/
def apick (t : Bool) (a b : V) : Option V :=
  match a, b with
  | .x (.bool p), .x (.bool q) => some (.x (.bool (bif t then p else q)))
  | .x (.int k p), .x (.int k' q) => if k = k' then some (.x (.int k (bif t then p else q))) else none
  | _, _ => none

/-- What a quiet operation gives: its condition and its value. -/
def aval (P : Program) (st : List Ob) (fs : Facts) (ρ : Facts → Operand → V) : Op → Option (Option Prop × V)
  | .move x => some (none, ρ fs x)
  | .assign x => some (none, ρ fs x)
  | .pick (.tmp s) a b => match ρ fs (.tmp s) with
    | .x (.bool t) => match apick t (ρ ((s, true) :: fs) a) (ρ ((s, false) :: fs) b) with
      | some v => some (none, v)
      | none => none
    | _ => none
  | .load t a => match aload P st t (ρ fs a) with
    | some v => some (none, v)
    | none => pload P st t (ρ fs a)
  | .nilCheck x => match anil (ρ fs x) with
    | some v => some (none, v)
    | none => none
  | .binOp op t x y _ => abin P op t (ρ fs x) (ρ fs y)
  | .unOp op _ x => match aun op (ρ fs x) with
    | some v => some (none, v)
    | none => none
  | .convert src dst x => match aconv P src dst (ρ fs x) with
    | some v => some (none, v)
    | none => none
  | .makeFunc fn first captured => some (none, .fn fn (first.toList.map (ρ fs)) (captured.toList.map (ρ fs)))
  | .fieldAddr s x f => match afieldAddr P s (ρ fs x) f with
    | some v => some (none, v)
    | none => none
  | .field s x f => match afield P s (ρ fs x) f with
    | some v => some (none, v)
    | none => none
  | .indexAddr t x i => match aindexAddr P st t (ρ fs x) (ρ fs i) with
    | some r => some r
    | none => pindexAddr P st t (ρ fs x) (ρ fs i)
  | .index t x i => aindex P t (ρ fs x) (ρ fs i)
  | .extract x i => match ρ fs x with
    | .tup vs => match vs[i]? with
      | some v => some (none, v)
      | none => none
    | _ => none
  | .build t parts => match abuild P t (parts.toList.map fun p => (p.1, ρ fs p.2)) with
    | some v => some (none, v)
    | none => none
  | .slice t x lo hi none => match aslice P t (ρ fs x) (lo.map (ρ fs)) (hi.map (ρ fs)) with
    | some r => some r
    | none => pslice P t (ρ fs x) (lo.map (ρ fs)) (hi.map (ρ fs))
  | .call { callee := .builtin b, args, argTypes } => match abi P st b argTypes.toList (args.toList.map (ρ fs)) with
    | some v => some (none, v)
    | none => none
  | _ => none

theorem RelVs.operands {c : Cfg} {ρ : Operand → V} {e : Operand → Value} (h : ∀ x, RelV c (ρ x) (e x)) : ∀ (l : List Operand), RelVs c (l.map ρ) (l.map e)
  | [] => RelVs.nil
  | x :: l => RelVs.cons (h x) (RelVs.operands h l)

theorem aval_sound {P : Program} {w0 : Base} {c : Cfg} (hr : Rel w0 c) {e : Operand → Value} {fs : Facts} {ρ : Facts → Operand → V}
    (hρ : ∀ gs x, (∀ g, g ∈ gs → e (.tmp g.1) = .bool g.2) → RelV c (ρ gs x) (e x)) (hfs : ∀ g, g ∈ fs → e (.tmp g.1) = .bool g.2)
    {o : Oper} {p : Option Prop} {v : V} (h : aval P c.st fs ρ o.op = some (p, v)) (hp : vc p) :
    ∃ u, (execOp e o).run P c.w = .ok (.value u) c.w ∧ RelV c v u := by
  have hx : ∀ x, RelV c (ρ fs x) (e x) := fun x => hρ fs x hfs
  obtain ⟨dst, op, ty, pos, after, guard⟩ := o
  simp only at h
  cases op with
  | move x => simp only [aval, Option.some.injEq, Prod.mk.injEq] at h; obtain ⟨rfl, rfl⟩ := h; exact ⟨e x, rfl, hx x⟩
  | assign x => simp only [aval, Option.some.injEq, Prod.mk.injEq] at h; obtain ⟨rfl, rfl⟩ := h; exact ⟨e x, rfl, hx x⟩
  | pick cnd a b =>
    cases cnd with
    | tmp s =>
      simp only [aval] at h
      split at h
      · next t hc =>
        split at h
        · next v' hv =>
          cases h
          have hcv := hx (.tmp s)
          rw [hc] at hcv
          simp only [RelV] at hcv
          have hrun : (execOp e ⟨dst, .pick (.tmp s) a b, ty, pos, after, guard⟩).run P c.w = .ok (.value (if t = true then e a else e b)) c.w := by
            simp [execOp, hcv, asBool]
          refine ⟨_, hrun, ?_⟩
          have ha : t = true → RelV c (ρ ((s, true) :: fs) a) (e a) := fun ht => hρ _ _ fun g hg => by
            rcases List.mem_cons.1 hg with rfl | hg
            · rw [hcv, ht]
            · exact hfs g hg
          have hb : t = false → RelV c (ρ ((s, false) :: fs) b) (e b) := fun ht => hρ _ _ fun g hg => by
            rcases List.mem_cons.1 hg with rfl | hg
            · rw [hcv, ht]
            · exact hfs g hg
          unfold apick at hv
          split at hv
          · next p q ea eb =>
            cases hv
            rw [ea] at ha; rw [eb] at hb
            simp only [RelV] at ha hb ⊢
            cases t
            · simpa using hb rfl
            · simpa using ha rfl
          · next k p k' q ea eb =>
            split at hv
            · next hk =>
              cases hv
              subst hk
              rw [ea] at ha; rw [eb] at hb
              simp only [RelV] at ha hb ⊢
              cases t
              · simpa using hb rfl
              · simpa using ha rfl
            · cases hv
          · cases hv
        · cases h
      · cases h
    | _ => simp [aval] at h
  | load t a =>
    simp only [aval] at h
    split at h
    · next v' hv =>
      cases h
      obtain ⟨u, h1, h2⟩ := aload_sound (P := P) hr hv (hx a)
      exact ⟨u, by simp only [execOp, Sem.run_bind, h1, Result.andThen_ok, Sem.run_pure], h2⟩
    · obtain ⟨u, h1, h2⟩ := pload_sound (P := P) hr h hp (hx a)
      exact ⟨u, by simp only [execOp, Sem.run_bind, h1, Result.andThen_ok, Sem.run_pure], h2⟩
  | nilCheck x =>
    simp only [aval] at h
    split at h
    · next v' hv =>
      cases h
      have hxx := hx x
      unfold anil at hv
      split at hv
      · next cs j er =>
        cases hv
        rw [er] at hxx
        refine ⟨e x, ?_, hxx⟩
        simp only [RelV] at hxx
        obtain ⟨b, o, he, _⟩ := hxx
        simp [execOp, he]
      · next r i er =>
        cases hv
        rw [er] at hxx
        refine ⟨e x, ?_, hxx⟩
        obtain ⟨b, o, he⟩ := cl_shape hxx
        simp [execOp, he]
      · next r i j er =>
        cases hv
        rw [er] at hxx
        refine ⟨e x, ?_, hxx⟩
        obtain ⟨b, o, he⟩ := el_shape hxx
        simp [execOp, he]
      · next a i er =>
        cases hv
        rw [er] at hxx
        refine ⟨e x, ?_, hxx⟩
        simp only [RelV] at hxx
        obtain ⟨b, o, _, he⟩ := hxx
        simp [execOp, he]
      · next f a b er =>
        cases hv
        rw [er] at hxx
        refine ⟨e x, ?_, hxx⟩
        simp only [RelV] at hxx
        obtain ⟨us1, us2, he, _⟩ := hxx
        simp [execOp, he]
      · cases hv
    · cases h
  | binOp op t x y yt =>
    simp only [aval] at h
    obtain ⟨u, h1, h2⟩ := abin_sound (P := P) h hp (hx x) (hx y) x y
    refine ⟨u, ?_, h2⟩
    simp only [execOp]
    rw [Sem.run_bind, h1]
    rfl
  | unOp op t x =>
    simp only [aval] at h
    split at h
    · next v' hv =>
      cases h
      have hxx := hx x
      unfold aun at hv
      split at hv
      · next k n er =>
        cases hv
        rw [er] at hxx
        simp only [RelV] at hxx
        exact ⟨_, by simp [execOp, hxx, Op.unary, Op.intArith]; rfl, by simp only [RelV]⟩
      · next b er =>
        cases hv
        rw [er] at hxx
        simp only [RelV] at hxx
        exact ⟨_, by simp [execOp, hxx, Op.unary]; rfl, by simp only [RelV]⟩
      · cases hv
    · cases h
  | convert src dst x =>
    simp only [aval] at h
    split at h
    · next v' hv =>
      cases h
      have hxx := hx x
      unfold aconv at hv
      split at hv
      · next k0 k k1 n hs hd er =>
        cases hv
        rw [er] at hxx
        simp only [RelV] at hxx
        exact ⟨_, by simp only [execOp, convert, hxx, Sem.run_bind, run_underlying hs, run_underlying hd, Result.andThen_ok, Conv.intToInt, Sem.run_pure]; rfl, by simp only [RelV]⟩
      · next s hs hd er =>
        cases hv
        rw [er] at hxx
        simp only [RelV] at hxx
        exact ⟨_, by simp only [execOp, convert, hxx, Sem.run_bind, run_underlying hs, run_underlying hd, Result.andThen_ok, Sem.run_pure]; rfl, by simp only [RelV]⟩
      · cases hv
    · cases h
  | makeFunc fn first captured =>
    simp only [aval, Option.some.injEq, Prod.mk.injEq] at h
    obtain ⟨rfl, rfl⟩ := h
    refine ⟨.func fn (first.map e) (captured.map e), rfl, ?_⟩
    simp only [RelV]
    exact ⟨_, _, rfl, by simpa using RelVs.operands hx first.toList, by simpa using RelVs.operands hx captured.toList⟩
  | fieldAddr s x f =>
    simp only [aval] at h
    split at h
    · next v' hv =>
      cases h
      obtain ⟨u, h1, h2⟩ := afieldAddr_sound (P := P) hv (hx x)
      exact ⟨u, by simp only [execOp, Sem.run_bind, h1, Result.andThen_ok, Sem.run_pure], h2⟩
    · cases h
  | field s x f =>
    simp only [aval] at h
    split at h
    · next v' hv =>
      cases h
      obtain ⟨u, h1, h2⟩ := afield_sound (P := P) hv (hx x)
      exact ⟨u, by simp only [execOp, Sem.run_bind, h1, Result.andThen_ok, Sem.run_pure], h2⟩
    · cases h
  | indexAddr t x i =>
    simp only [aval] at h
    split at h
    · next r hq =>
      cases h
      obtain ⟨u, h1, h2⟩ := aindexAddr_sound (P := P) hr hq hp (hx x) (hx i)
      exact ⟨u, by simp only [execOp, Sem.run_bind, h1, Result.andThen_ok, Sem.run_pure], h2⟩
    · obtain ⟨u, h1, h2⟩ := pindexAddr_sound (P := P) h hp (hx x) (hx i)
      exact ⟨u, by simp only [execOp, Sem.run_bind, h1, Result.andThen_ok, Sem.run_pure], h2⟩
  | index t x i =>
    simp only [aval] at h
    obtain ⟨u, h1, h2⟩ := aindex_sound (P := P) h hp (hx x) (hx i)
    exact ⟨u, by simp only [execOp, Sem.run_bind, h1, Result.andThen_ok, Sem.run_pure], h2⟩
  | extract x i =>
    simp only [aval] at h
    split at h
    · next vs er =>
      split at h
      · next v' hv =>
        cases h
        have hxx := hx x
        rw [er] at hxx
        simp only [RelV] at hxx
        obtain ⟨us, he, hvs⟩ := hxx
        obtain ⟨u, h1, h2⟩ := hvs.get hv
        have h1' : us[i]? = some u := by simpa using h1
        exact ⟨u, by simp [execOp, he, Instr.extract, h1'], h2⟩
      · cases h
    · cases h
  | build t parts =>
    simp only [aval] at h
    split at h
    · next v' hv =>
      cases h
      obtain ⟨u, h1, h2⟩ := abuild_sound (P := P) (parts' := parts.map fun p => (p.1, e p.2)) hv (by simp) (by
        simp only [List.map_map, Array.toList_map]
        have := RelVs.operands hx (parts.toList.map (·.2))
        simpa [List.map_map, Function.comp_def] using this)
      exact ⟨u, by simp only [execOp, Sem.run_bind, h1, Result.andThen_ok, Sem.run_pure], h2⟩
    · cases h
  | slice t x lo hi mx =>
    cases mx with
    | some m => simp [aval] at h
    | none =>
      simp only [aval] at h
      split at h
      · next r hq =>
        cases h
        obtain ⟨u, h1, h2⟩ := aslice_sound (P := P) (lo' := lo.map e) (hi' := hi.map e) hq hp (hx x) (by cases lo <;> simp [RelO, hx]) (by cases hi <;> simp [RelO, hx])
        refine ⟨u, ?_, h2⟩
        simp only [execOp, Option.map_none, Sem.run_bind, h1, Result.andThen_ok, Sem.run_pure]
      · obtain ⟨u, h1, h2⟩ := pslice_sound (P := P) (lo' := lo.map e) (hi' := hi.map e) h hp (hx x) (by cases lo <;> simp [RelO, hx]) (by cases hi <;> simp [RelO, hx])
        refine ⟨u, ?_, h2⟩
        simp only [execOp, Option.map_none, Sem.run_bind, h1, Result.andThen_ok, Sem.run_pure]
  | call cl =>
    obtain ⟨callee, args, argTypes⟩ := cl
    cases callee with
    | builtin b =>
      simp only [aval] at h
      split at h
      · next v' hv =>
        cases h
        obtain ⟨u, h1, h2⟩ := abi_sound (P := P) (ty := ty) (cs := args.map fun | .const _ => true | _ => false) (us := args.map e) hr hv (by simpa using RelVs.operands hx args.toList)
        exact ⟨u, by simp only [execOp, resolve, Sem.run_bind, Sem.run_pure, Result.andThen_ok, invoke]; exact h1, h2⟩
      · cases h
    | _ => simp [aval] at h
  | _ => simp [aval] at h

end Eng
end Go.Proofs.YtkpplfghhciacaaDoor

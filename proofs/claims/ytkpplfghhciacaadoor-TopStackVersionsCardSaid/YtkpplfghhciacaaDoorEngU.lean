/-
  Small words for the lifted texts: parts of code, contexts of contracts, the usual caller. Conditions: none.
-/
import Derived.Test.YtkpplfghhciacaaDoorEngT
import Derived.KernelRfl
set_option linter.unusedVariables false
set_option linter.unusedSimpArgs false
namespace Go.Proofs.YtkpplfghhciacaaDoor
namespace Eng
open Go.RowKit

def sub : List Bool → Code → Code
  | [], c => c
  | b :: p, .seq x y => sub p (bif b then y else x)
  | b :: p, .cond _ x y => sub p (bif b then y else x)
  | _ :: p, .block _ b => sub p b
  | _ :: p, .loop b => sub p b
  | _, c => c

def codeOf (fn : Func) : Code := match fn.body with
  | some c => c
  | none => .skip

theorem annOf {P : Program} {C : Caller} {D : List Oper → List V → List Ob → St → Prop} {fn : Func} {ann : Ann} {N : Nat} (h : AnnOk P C D N ann (codeOf fn)) : ∀ code, fn.body = some code → AnnOk P C D N ann code := by
  intro code hc
  have : codeOf fn = code := by unfold codeOf; rw [hc]
  rw [← this]
  exact h

def ctx0 : Ctx := fun _ => none

def ctxC (Γ : Ctx) (f : FuncId) (s : SemF) : Ctx := fun g => if g = f then some s else Γ g

theorem ctx0_ok {P : Program} : SoundG P ctx0 := fun _ _ h => by cases h

theorem ctxC_ok {P : Program} {Γ : Ctx} {f : FuncId} {s : SemF} (h : SoundG P Γ) (hs : SoundFn P f s) : SoundG P (ctxC Γ f s) := by
  intro g sem hg
  unfold ctxC at hg
  split at hg
  · next e => cases hg; rw [e]; exact hs
  · exact h g sem hg

def ctxO0 : CtxO := fun _ => none

def ctxD (Δ : CtxO) (f : FuncId) (rs : List Rs) (s : SemO) : CtxO := fun g => if g = f then some (rs, s) else Δ g

theorem ctxO0_ok {P : Program} : SoundGO P ctxO0 := fun _ _ h => by cases h

theorem ctxD_ok {P : Program} {Δ : CtxO} {f : FuncId} {rs : List Rs} {s : SemO} (h : SoundGO P Δ) (hs : SoundO P f s) : SoundGO P (ctxD Δ f rs s) := by
  intro g x hg
  unfold ctxD at hg
  split at hg
  · next e => cases hg; rw [e]; exact hs
  · exact h g x hg

def CC (P : Program) (Γ : Ctx) (Δ : CtxO) : Caller := mkC P Γ Δ (fun _ => drawD P Γ Δ) (fun _ => .leaf) 0

theorem CC_ok {P : Program} {Γ : Ctx} (h : SoundG P Γ) {Δ : CtxO} (hΔ : SoundGO P Δ) : SoundC P (CC P Γ Δ) := mkC_sound h hΔ (fun _ _ => drawD_sound h hΔ) (fun _ _ _ _ _ _ _ => annOk_leaf _) 0

/-- A function's run by the contracts at hand. -/
def run (P : Program) (Γ : Ctx) (Δ : CtxO) (ann : Ann) (rs : Rs) (fn : Func) : SemF := runF P (CC P Γ Δ) (drawD P Γ Δ) ann rs fn

theorem run_ok {P : Program} {Γ : Ctx} (h : SoundG P Γ) {Δ : CtxO} (hΔ : SoundGO P Δ) {f : FuncId} {fn : Func} (hf : P.funcs[f]? = some fn) {ann : Ann} {rs : Rs} (hk : AnnOk P (CC P Γ Δ) (drawD P Γ Δ) 0 ann (codeOf fn)) : SoundFn P f (run P Γ Δ ann rs fn) :=
  runF_sound (CC_ok h hΔ) (drawD_sound h hΔ) hf ann rs (annOf hk)

/-- The same of a function that is handed k objects over. -/
def runH (P : Program) (Γ : Ctx) (Δ : CtxO) (ann : Ann) (rs : Rs) (flds : List (Nat × Nat × Rs)) (fn : Func) (pl : Bool) (k : Nat) : SemO := runO P (CC P Γ Δ) (drawD P Γ Δ) ann rs flds fn pl k

theorem runH_ok {P : Program} {Γ : Ctx} (h : SoundG P Γ) {Δ : CtxO} (hΔ : SoundGO P Δ) {f : FuncId} {fn : Func} (hf : P.funcs[f]? = some fn) {ann : Ann} {rs : Rs} {flds : List (Nat × Nat × Rs)} {pl : Bool} {k N : Nat} (hN : N = bif pl then k + 1 else k) (hk : AnnOk P (CC P Γ Δ) (drawD P Γ Δ) N ann (codeOf fn)) : SoundO P f (runH P Γ Δ ann rs flds fn pl k) :=
  runO_sound (CC_ok h hΔ) (drawD_sound h hΔ) hf ann rs flds pl k N hN (annOf hk)

abbrev i64 (n : Int) : Int := IntKind.i64.wrap n

end Eng
end Go.Proofs.YtkpplfghhciacaaDoor

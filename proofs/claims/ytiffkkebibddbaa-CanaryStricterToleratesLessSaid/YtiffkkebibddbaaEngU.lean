/-
  Small words for the lifted texts: parts of code, contexts of contracts, the usual caller. Conditions: none.
-/
import Derived.Test.YtiffkkebibddbaaEngT
import Derived.KernelRfl
namespace Go.Proofs.Ytiffkkebibddbaa
namespace Eng
open Go.RowKit

def sub : List Bool → Code → Code
  | [], c => c
  | b :: p, .seq x y => sub p (bif b then y else x)
  | b :: p, .cond _ x y => sub p (bif b then y else x)
  | _ :: p, .block _ b => sub p b
  | _ :: p, .loop b => sub p b
  | _, c => c

def codeOf (fn : Func) : Code := match fn.body with
  | some c => c
  | none => .skip

theorem annOf {P : Program} {C : Caller} {D : List Oper → List V → List Ob → St → Prop} {fn : Func} {ann : Ann} (h : AnnOk P C D ann (codeOf fn)) : ∀ code, fn.body = some code → AnnOk P C D ann code := by
  intro code hc
  have : codeOf fn = code := by unfold codeOf; rw [hc]
  rw [← this]
  exact h

def ctx0 : Ctx := fun _ => none

def ctxC (Γ : Ctx) (f : FuncId) (s : SemF) : Ctx := fun g => if g = f then some s else Γ g

theorem ctx0_ok {P : Program} : SoundG P ctx0 := fun _ _ h => by cases h

theorem ctxC_ok {P : Program} {Γ : Ctx} {f : FuncId} {s : SemF} (h : SoundG P Γ) (hs : SoundFn P f s) : SoundG P (ctxC Γ f s) := by
  intro g sem hg
  unfold ctxC at hg
  split at hg
  · next e => cases hg; rw [e]; exact hs
  · exact h g sem hg

def CC (P : Program) (Γ : Ctx) : Caller := mkC P Γ (fun _ => drawD P Γ) (fun _ => .leaf) 0

theorem CC_ok {P : Program} {Γ : Ctx} (h : SoundG P Γ) : SoundC P (CC P Γ) := mkC_sound h (fun _ _ => drawD_sound h) (fun _ _ _ _ _ _ => annOk_leaf _) (fun _ => rfl) 0

/-- A function's run by the contracts at hand. -/
def run (P : Program) (Γ : Ctx) (ann : Ann) (fn : Func) : SemF := runF P (CC P Γ) (drawD P Γ) ann fn

theorem run_ok {P : Program} {Γ : Ctx} (h : SoundG P Γ) {f : FuncId} {fn : Func} (hf : P.funcs[f]? = some fn) {ann : Ann} (hk : AnnOk P (CC P Γ) (drawD P Γ) ann (codeOf fn)) : SoundFn P f (run P Γ ann fn) :=
  runF_sound (CC_ok h) (drawD_sound h) hf ann (annOf hk)

abbrev i64 (n : Int) : Int := IntKind.i64.wrap n

end Eng
end Go.Proofs.Ytiffkkebibddbaa

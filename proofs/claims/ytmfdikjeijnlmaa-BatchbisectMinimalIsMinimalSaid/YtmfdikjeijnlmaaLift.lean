/-
  The Go functions of this part as plain functions in continuation style, printed by a program of mine, each with the proof that the Go function does what it says. Conditions: none.
-/
import Derived.Test.YtmfdikjeijnlmaaEngW
import Derived.Test.YtmfdikjeijnlmaaProg
import Derived.Test.YtmfdikjeijnlmaaSortI
set_option linter.unusedVariables false
set_option maxRecDepth 100000
namespace Go.Proofs.Ytmfdikjeijnlmaa
open Eng
def L.ΔS : CtxO := fun g => if g = 30 then some ([.sl (.int .i64)], sortS) else none
theorem L.ΔS_ok : SoundGO Try.prog L.ΔS := by
  intro g x h
  unfold L.ΔS at h
  split at h
  · next e => cases h; subst e; exact sortS_ok Try.lays189
  · cases h
/-- changeforge/changeforgeref8.Fault -/
def L.Γ_ref8_Fault : Ctx := ctx0
theorem L.Γ_ref8_Fault_ok : SoundG Try.prog L.Γ_ref8_Fault := ctx0_ok
def L.Δ_ref8_Fault : CtxO := L.ΔS
theorem L.Δ_ref8_Fault_ok : SoundGO Try.prog L.Δ_ref8_Fault := L.ΔS_ok
def L.ref8_Fault_B (code : Int) (index : Int) (K : Int → Int → Prop) : Prop :=
  K code index
structure L.ref8_Fault (code : Int) (index : Int) (K : Int → Int → Prop) : Prop where
  out : L.ref8_Fault_B code index K
def L.ref8_Fault_ss : List Sh := [.int .i64, .int .i64]
def L.ref8_Fault_G (vs : List V) (K : V → List Ob → Prop) : Prop := L.ref8_Fault (gI (vs.getD 0 .any)) (gI (vs.getD 1 .any)) (fun r0 r1 => K (.agg [.x (.int .i64 r0), .x (.int .i64 r1)]) [])
def L.ref8_Fault_S : SemF := fun args K => argF L.ref8_Fault_ss args fun a => L.ref8_Fault_G a K
theorem L.ref8_Fault_eq (code : Int) (index : Int) (K : V → List Ob → Prop) : run Try.prog L.Γ_ref8_Fault L.Δ_ref8_Fault .leaf .any Try.f16 [.x (.int .i64 code), .x (.int .i64 index)] K = L.ref8_Fault_B code index (fun r0 r1 => K (.agg [.x (.int .i64 r0), .x (.int .i64 r1)]) []) := by
  kernel_rfl
theorem L.ref8_Fault_imp (vs : List V) (K : V → List Ob → Prop) (h : L.ref8_Fault_G vs K) : run Try.prog L.Γ_ref8_Fault L.Δ_ref8_Fault .leaf .any Try.f16 (mkL L.ref8_Fault_ss 0 vs) K :=
  Eq.mpr (Eq.trans (b := run Try.prog L.Γ_ref8_Fault L.Δ_ref8_Fault .leaf .any Try.f16 [.x (.int .i64 (gI (vs.getD 0 .any))), .x (.int .i64 (gI (vs.getD 1 .any)))] K) (by kernel_rfl) (L.ref8_Fault_eq (gI (vs.getD 0 .any)) (gI (vs.getD 1 .any)) K)) (L.ref8_Fault.out h)
theorem L.ref8_Fault_ok : SoundFn Try.prog 16 L.ref8_Fault_S :=
  fn_ok (sem := run Try.prog L.Γ_ref8_Fault L.Δ_ref8_Fault .leaf .any Try.f16) (ss := L.ref8_Fault_ss) (G := L.ref8_Fault_G) (run_ok L.Γ_ref8_Fault_ok L.Δ_ref8_Fault_ok Try.func16 (ann := .leaf) (annOk_leaf _)) L.ref8_Fault_imp
/-- changeforge/changeforgeref8.SetCode -/
def L.Γ_ref8_SetCode : Ctx := ctxC L.Γ_ref8_Fault 16 L.ref8_Fault_S
theorem L.Γ_ref8_SetCode_ok : SoundG Try.prog L.Γ_ref8_SetCode := ctxC_ok L.Γ_ref8_Fault_ok L.ref8_Fault_ok
def L.Δ_ref8_SetCode : CtxO := L.Δ_ref8_Fault
theorem L.Δ_ref8_SetCode_ok : SoundGO Try.prog L.Δ_ref8_SetCode := L.Δ_ref8_Fault_ok
def L.ref8_SetCode_L1_b (n1 : Int) (set1 : (List Int)) (last : Int) (i_ : Int) (self : Int → Int → Prop) (Kx0 : Prop) (Kr : Int → Prop) : Prop :=
  (bif (decide (i_ < (set1.length : Int))) then (inB i_ set1.length) ∧ ((((decide ((set1.getD i_.toNat 0) < 0)) == false) = true → inB i_ set1.length)) ∧ (bif (bif (decide ((set1.getD i_.toNat 0) < 0)) then true else (decide ((set1.getD i_.toNat 0) ≥ n1))) then Kr 3 else (inB i_ set1.length) ∧ (bif (decide ((set1.getD i_.toNat 0) ≤ last)) then Kr 5 else (inB i_ set1.length) ∧ self (set1.getD i_.toNat 0) (i64 (i_ + 1)))) else Kx0)
def L.ref8_SetCode_L1_R (n1 : Int) (set1 : (List Int)) : Nat → Int → Int → (Prop) → (Int → Prop) → Prop
  | 0, _, _, _, _ => False
  | fu + 1, last, i_, Kx0, Kr => L.ref8_SetCode_L1_b n1 set1 last i_ (fun last i_ => L.ref8_SetCode_L1_R n1 set1 fu last i_ Kx0 Kr) Kx0 Kr
structure L.ref8_SetCode_L1 (n1 : Int) (set1 : (List Int)) (last : Int) (i_ : Int) (Kx0 : Prop) (Kr : Int → Prop) : Prop where
  out : ∃ fu, L.ref8_SetCode_L1_R n1 set1 fu last i_ Kx0 Kr
def L.ref8_SetCode_L1_d : LoopD := { keep := [0, 1, 5, 6], vecs := [], out := [], rets := [4] }
def L.ref8_SetCode_L1_ss : List Sh := [.int .i64, .ro (.int .i64), .int .i64, .int .i64]
def L.ref8_SetCode_L1_os : List OSh := []
def L.ref8_SetCode_L1_G (vs : List V) (st : List Ob) (K : Ex → St) : Prop := L.ref8_SetCode_L1 (gI (vs.getD 0 .any)) (gR (.int .i64) (vs.getD 1 .any)) (gI (vs.getD 2 .any)) (gI (vs.getD 3 .any)) (K (.exit 0) (setVs [] 0 (bld [] [] 0 36)) []) (fun r0 => K .ret (bld [4] [.x (.int .i64 r0)] 0 36) [])
def L.ref8_SetCode_L1_F (vs : List V) (st : List Ob) (K : Ex → St) : Prop := fitF L.ref8_SetCode_L1_ss L.ref8_SetCode_L1_os vs st (L.ref8_SetCode_L1_G vs st K)
theorem L.ref8_SetCode_L1_eq (n1 : Int) (set1 : (List Int)) (K : Ex → St) : ∀ (fu : Nat) (last : Int) (i_ : Int), L.ref8_SetCode_L1_R n1 set1 fu last i_ (K (.exit 0) (setVs [] 0 (bld [] [] 0 36)) []) (fun r0 => K .ret (bld [4] [.x (.int .i64 r0)] 0 36) []) = iterL (stepL (exec Try.prog (CC Try.prog L.Γ_ref8_SetCode L.Δ_ref8_SetCode) (drawD Try.prog L.Γ_ref8_SetCode) .leaf (sub [true, true, false, true, false, false] (codeOf Try.f15))) 0 L.ref8_SetCode_L1_d K) fu (setVs L.ref8_SetCode_L1_d.vecs 0 (bld L.ref8_SetCode_L1_d.keep [.x (.int .i64 n1), .ro (.int .i64) set1, .x (.int .i64 last), .x (.int .i64 i_)] 0 36)) [] := by
  intro fu
  induction fu with
  | zero => intros; rfl
  | succ fu ih =>
    intro last i_
    have e : (fun last i_ => L.ref8_SetCode_L1_R n1 set1 fu last i_ (K (.exit 0) (setVs [] 0 (bld [] [] 0 36)) []) (fun r0 => K .ret (bld [4] [.x (.int .i64 r0)] 0 36) [])) = fun last i_ => iterL (stepL (exec Try.prog (CC Try.prog L.Γ_ref8_SetCode L.Δ_ref8_SetCode) (drawD Try.prog L.Γ_ref8_SetCode) .leaf (sub [true, true, false, true, false, false] (codeOf Try.f15))) 0 L.ref8_SetCode_L1_d K) fu (setVs L.ref8_SetCode_L1_d.vecs 0 (bld L.ref8_SetCode_L1_d.keep [.x (.int .i64 n1), .ro (.int .i64) set1, .x (.int .i64 last), .x (.int .i64 i_)] 0 36)) [] := by
      funext last i_; exact ih last i_
    show L.ref8_SetCode_L1_b n1 set1 last i_ (fun last i_ => L.ref8_SetCode_L1_R n1 set1 fu last i_ (K (.exit 0) (setVs [] 0 (bld [] [] 0 36)) []) (fun r0 => K .ret (bld [4] [.x (.int .i64 r0)] 0 36) [])) (K (.exit 0) (setVs [] 0 (bld [] [] 0 36)) []) (fun r0 => K .ret (bld [4] [.x (.int .i64 r0)] 0 36) []) = _
    rw [e]
    kernel_rfl
theorem L.ref8_SetCode_L1_imp (vs : List V) (st : List Ob) (K : Ex → St) (h : L.ref8_SetCode_L1_G vs st K) : ∃ fu, iterL (stepL (exec Try.prog (CC Try.prog L.Γ_ref8_SetCode L.Δ_ref8_SetCode) (drawD Try.prog L.Γ_ref8_SetCode) .leaf (sub [true, true, false, true, false, false] (codeOf Try.f15))) 0 L.ref8_SetCode_L1_d K) fu (setVs L.ref8_SetCode_L1_d.vecs 0 (bld L.ref8_SetCode_L1_d.keep (mkL L.ref8_SetCode_L1_ss 0 vs) 0 36)) (mkOs L.ref8_SetCode_L1_os 0 st) :=
  exMap (fun fu h => Eq.mp (Eq.trans (L.ref8_SetCode_L1_eq (gI (vs.getD 0 .any)) (gR (.int .i64) (vs.getD 1 .any)) K fu (gI (vs.getD 2 .any)) (gI (vs.getD 3 .any))) (by kernel_rfl)) h) (L.ref8_SetCode_L1.out h)
theorem L.ref8_SetCode_L1_ok : AnnOk Try.prog (CC Try.prog L.Γ_ref8_SetCode L.Δ_ref8_SetCode) (drawD Try.prog L.Γ_ref8_SetCode) 0 (.lift L.ref8_SetCode_L1_d 36 L.ref8_SetCode_L1_F) (.loop (sub [true, true, false, true, false, false] (codeOf Try.f15))) :=
  lift_ok (an := .leaf) (ss := L.ref8_SetCode_L1_ss) (os := L.ref8_SetCode_L1_os) (G := L.ref8_SetCode_L1_G) (L0 := 0) rfl (annOk_leaf _) rfl L.ref8_SetCode_L1_imp
def L.ref8_SetCode_B (n : Int) (set : (List Int)) (K : Int → Prop) : Prop :=
  L.ref8_SetCode_L1 n set (-1) 0 (K 0) (fun r => K r)
structure L.ref8_SetCode (n : Int) (set : (List Int)) (K : Int → Prop) : Prop where
  out : L.ref8_SetCode_B n set K
def L.ref8_SetCode_ss : List Sh := [.int .i64, .ro (.int .i64)]
def L.ref8_SetCode_G (vs : List V) (K : V → List Ob → Prop) : Prop := L.ref8_SetCode (gI (vs.getD 0 .any)) (gR (.int .i64) (vs.getD 1 .any)) (fun r0 => K (.x (.int .i64 r0)) [])
def L.ref8_SetCode_S : SemF := fun args K => argF L.ref8_SetCode_ss args fun a => L.ref8_SetCode_G a K
theorem L.ref8_SetCode_eq (n : Int) (set : (List Int)) (K : V → List Ob → Prop) : run Try.prog L.Γ_ref8_SetCode L.Δ_ref8_SetCode (.node .leaf (.node .leaf (.node (.node .leaf (.lift L.ref8_SetCode_L1_d 36 L.ref8_SetCode_L1_F)) .leaf))) .any Try.f15 [.x (.int .i64 n), .ro (.int .i64) set] K = L.ref8_SetCode_B n set (fun r0 => K (.x (.int .i64 r0)) []) := by
  kernel_rfl
theorem L.ref8_SetCode_imp (vs : List V) (K : V → List Ob → Prop) (h : L.ref8_SetCode_G vs K) : run Try.prog L.Γ_ref8_SetCode L.Δ_ref8_SetCode (.node .leaf (.node .leaf (.node (.node .leaf (.lift L.ref8_SetCode_L1_d 36 L.ref8_SetCode_L1_F)) .leaf))) .any Try.f15 (mkL L.ref8_SetCode_ss 0 vs) K :=
  Eq.mpr (Eq.trans (b := run Try.prog L.Γ_ref8_SetCode L.Δ_ref8_SetCode (.node .leaf (.node .leaf (.node (.node .leaf (.lift L.ref8_SetCode_L1_d 36 L.ref8_SetCode_L1_F)) .leaf))) .any Try.f15 [.x (.int .i64 (gI (vs.getD 0 .any))), .ro (.int .i64) (gR (.int .i64) (vs.getD 1 .any))] K) (by kernel_rfl) (L.ref8_SetCode_eq (gI (vs.getD 0 .any)) (gR (.int .i64) (vs.getD 1 .any)) K)) (L.ref8_SetCode.out h)
theorem L.ref8_SetCode_ok : SoundFn Try.prog 15 L.ref8_SetCode_S :=
  fn_ok (sem := run Try.prog L.Γ_ref8_SetCode L.Δ_ref8_SetCode (.node .leaf (.node .leaf (.node (.node .leaf (.lift L.ref8_SetCode_L1_d 36 L.ref8_SetCode_L1_F)) .leaf))) .any Try.f15) (ss := L.ref8_SetCode_ss) (G := L.ref8_SetCode_G) (run_ok L.Γ_ref8_SetCode_ok L.Δ_ref8_SetCode_ok Try.func15 (ann := (.node .leaf (.node .leaf (.node (.node .leaf (.lift L.ref8_SetCode_L1_d 36 L.ref8_SetCode_L1_F)) .leaf)))) ⟨(annOk_leaf _), ⟨(annOk_leaf _), ⟨⟨(annOk_leaf _), L.ref8_SetCode_L1_ok⟩, (annOk_leaf _)⟩⟩⟩) L.ref8_SetCode_imp
/-- changeforge/changeforgeref8.CulpritsFault -/
def L.Γ_ref8_CulpritsFault : Ctx := ctxC L.Γ_ref8_SetCode 15 L.ref8_SetCode_S
theorem L.Γ_ref8_CulpritsFault_ok : SoundG Try.prog L.Γ_ref8_CulpritsFault := ctxC_ok L.Γ_ref8_SetCode_ok L.ref8_SetCode_ok
def L.Δ_ref8_CulpritsFault : CtxO := L.Δ_ref8_SetCode
theorem L.Δ_ref8_CulpritsFault_ok : SoundGO Try.prog L.Δ_ref8_CulpritsFault := L.Δ_ref8_SetCode_ok
def L.ref8_CulpritsFault_L1_b (n1 : Int) (culprits1 : (List (List Int))) (i_ : Int) (self : Int → Prop) (Kx0 : Prop) (Kr : Int → Int → Prop) : Prop :=
  (bif (decide (i_ < (culprits1.length : Int))) then (inB i_ culprits1.length) ∧ (bif (((culprits1.getD i_.toNat []).length : Int) == 0) then L.ref8_Fault 9 i_ (fun rCode2 rIndex2 => Kr rCode2 rIndex2) else (inB i_ culprits1.length) ∧ L.ref8_SetCode n1 (culprits1.getD i_.toNat []) (fun r => (bif (r != 0) then (inB i_ culprits1.length) ∧ L.ref8_SetCode n1 (culprits1.getD i_.toNat []) (fun r1 => L.ref8_Fault r1 i_ (fun rCode3 rIndex3 => Kr rCode3 rIndex3)) else self (i64 (i_ + 1))))) else Kx0)
def L.ref8_CulpritsFault_L1_R (n1 : Int) (culprits1 : (List (List Int))) : Nat → Int → (Prop) → (Int → Int → Prop) → Prop
  | 0, _, _, _ => False
  | fu + 1, i_, Kx0, Kr => L.ref8_CulpritsFault_L1_b n1 culprits1 i_ (fun i_ => L.ref8_CulpritsFault_L1_R n1 culprits1 fu i_ Kx0 Kr) Kx0 Kr
structure L.ref8_CulpritsFault_L1 (n1 : Int) (culprits1 : (List (List Int))) (i_ : Int) (Kx0 : Prop) (Kr : Int → Int → Prop) : Prop where
  out : ∃ fu, L.ref8_CulpritsFault_L1_R n1 culprits1 fu i_ Kx0 Kr
def L.ref8_CulpritsFault_L1_d : LoopD := { keep := [0, 1, 4, 5], vecs := [], out := [4], rets := [4] }
def L.ref8_CulpritsFault_L1_ss : List Sh := [.int .i64, .ro (.slice (.int .i64)), .cl 0 0, .int .i64]
def L.ref8_CulpritsFault_L1_os : List OSh := [.cells [.int .i64, .int .i64]]
def L.ref8_CulpritsFault_L1_G (vs : List V) (st : List Ob) (K : Ex → St) : Prop := L.ref8_CulpritsFault_L1 (gI (vs.getD 0 .any)) (gR (.slice (.int .i64)) (vs.getD 1 .any)) (gI (vs.getD 3 .any)) (K (.exit 0) (setVs [] 1 (bld [4] [.cl 0 0] 0 47)) [.cells [.x (.int .i64 (gI ((oC (st.getD 0 .dead)).getD 0 .any))), .x (.int .i64 (gI ((oC (st.getD 0 .dead)).getD 1 .any)))]]) (fun r0 r1 => K .ret (bld [4] [.cl 0 0] 0 47) [.cells [.x (.int .i64 r0), .x (.int .i64 r1)]])
def L.ref8_CulpritsFault_L1_F (vs : List V) (st : List Ob) (K : Ex → St) : Prop := fitF L.ref8_CulpritsFault_L1_ss L.ref8_CulpritsFault_L1_os vs st (L.ref8_CulpritsFault_L1_G vs st K)
theorem L.ref8_CulpritsFault_L1_eq (n1 : Int) (culprits1 : (List (List Int))) (m0 : Int) (m01 : Int) (K : Ex → St) : ∀ (fu : Nat) (i_ : Int), L.ref8_CulpritsFault_L1_R n1 culprits1 fu i_ (K (.exit 0) (setVs [] 1 (bld [4] [.cl 0 0] 0 47)) [.cells [.x (.int .i64 m0), .x (.int .i64 m01)]]) (fun r0 r1 => K .ret (bld [4] [.cl 0 0] 0 47) [.cells [.x (.int .i64 r0), .x (.int .i64 r1)]]) = iterL (stepL (exec Try.prog (CC Try.prog L.Γ_ref8_CulpritsFault L.Δ_ref8_CulpritsFault) (drawD Try.prog L.Γ_ref8_CulpritsFault) .leaf (sub [true, true, true, false, true, false, false] (codeOf Try.f8))) 1 L.ref8_CulpritsFault_L1_d K) fu (setVs L.ref8_CulpritsFault_L1_d.vecs 1 (bld L.ref8_CulpritsFault_L1_d.keep [.x (.int .i64 n1), .ro (.slice (.int .i64)) culprits1, .cl 0 0, .x (.int .i64 i_)] 0 47)) [.cells [.x (.int .i64 m0), .x (.int .i64 m01)]] := by
  intro fu
  induction fu with
  | zero => intros; rfl
  | succ fu ih =>
    intro i_
    have e : (fun i_ => L.ref8_CulpritsFault_L1_R n1 culprits1 fu i_ (K (.exit 0) (setVs [] 1 (bld [4] [.cl 0 0] 0 47)) [.cells [.x (.int .i64 m0), .x (.int .i64 m01)]]) (fun r0 r1 => K .ret (bld [4] [.cl 0 0] 0 47) [.cells [.x (.int .i64 r0), .x (.int .i64 r1)]])) = fun i_ => iterL (stepL (exec Try.prog (CC Try.prog L.Γ_ref8_CulpritsFault L.Δ_ref8_CulpritsFault) (drawD Try.prog L.Γ_ref8_CulpritsFault) .leaf (sub [true, true, true, false, true, false, false] (codeOf Try.f8))) 1 L.ref8_CulpritsFault_L1_d K) fu (setVs L.ref8_CulpritsFault_L1_d.vecs 1 (bld L.ref8_CulpritsFault_L1_d.keep [.x (.int .i64 n1), .ro (.slice (.int .i64)) culprits1, .cl 0 0, .x (.int .i64 i_)] 0 47)) [.cells [.x (.int .i64 m0), .x (.int .i64 m01)]] := by
      funext i_; exact ih i_
    show L.ref8_CulpritsFault_L1_b n1 culprits1 i_ (fun i_ => L.ref8_CulpritsFault_L1_R n1 culprits1 fu i_ (K (.exit 0) (setVs [] 1 (bld [4] [.cl 0 0] 0 47)) [.cells [.x (.int .i64 m0), .x (.int .i64 m01)]]) (fun r0 r1 => K .ret (bld [4] [.cl 0 0] 0 47) [.cells [.x (.int .i64 r0), .x (.int .i64 r1)]])) (K (.exit 0) (setVs [] 1 (bld [4] [.cl 0 0] 0 47)) [.cells [.x (.int .i64 m0), .x (.int .i64 m01)]]) (fun r0 r1 => K .ret (bld [4] [.cl 0 0] 0 47) [.cells [.x (.int .i64 r0), .x (.int .i64 r1)]]) = _
    rw [e]
    kernel_rfl
theorem L.ref8_CulpritsFault_L1_imp (vs : List V) (st : List Ob) (K : Ex → St) (h : L.ref8_CulpritsFault_L1_G vs st K) : ∃ fu, iterL (stepL (exec Try.prog (CC Try.prog L.Γ_ref8_CulpritsFault L.Δ_ref8_CulpritsFault) (drawD Try.prog L.Γ_ref8_CulpritsFault) .leaf (sub [true, true, true, false, true, false, false] (codeOf Try.f8))) 1 L.ref8_CulpritsFault_L1_d K) fu (setVs L.ref8_CulpritsFault_L1_d.vecs 1 (bld L.ref8_CulpritsFault_L1_d.keep (mkL L.ref8_CulpritsFault_L1_ss 0 vs) 0 47)) (mkOs L.ref8_CulpritsFault_L1_os 0 st) :=
  exMap (fun fu h => Eq.mp (Eq.trans (L.ref8_CulpritsFault_L1_eq (gI (vs.getD 0 .any)) (gR (.slice (.int .i64)) (vs.getD 1 .any)) (gI ((oC (st.getD 0 .dead)).getD 0 .any)) (gI ((oC (st.getD 0 .dead)).getD 1 .any)) K fu (gI (vs.getD 3 .any))) (by kernel_rfl)) h) (L.ref8_CulpritsFault_L1.out h)
theorem L.ref8_CulpritsFault_L1_ok : AnnOk Try.prog (CC Try.prog L.Γ_ref8_CulpritsFault L.Δ_ref8_CulpritsFault) (drawD Try.prog L.Γ_ref8_CulpritsFault) 0 (.lift L.ref8_CulpritsFault_L1_d 47 L.ref8_CulpritsFault_L1_F) (.loop (sub [true, true, true, false, true, false, false] (codeOf Try.f8))) :=
  lift_ok (an := .leaf) (ss := L.ref8_CulpritsFault_L1_ss) (os := L.ref8_CulpritsFault_L1_os) (G := L.ref8_CulpritsFault_L1_G) (L0 := 1) rfl (annOk_leaf _) rfl L.ref8_CulpritsFault_L1_imp
def L.ref8_CulpritsFault_B (n : Int) (culprits : (List (List Int))) (K : Int → Int → Prop) : Prop :=
  (bif (bif (decide (n < 0)) then true else (decide (n > 16))) then L.ref8_Fault 3 (-1) (fun rCode rIndex => K rCode rIndex) else (bif (decide ((culprits.length : Int) > 8)) then L.ref8_Fault 2 (-1) (fun rCode1 rIndex1 => K rCode1 rIndex1) else L.ref8_CulpritsFault_L1 n culprits 0 (L.ref8_Fault 0 0 (fun rCode2 rIndex2 => K rCode2 rIndex2)) (fun m m1 => K m m1)))
structure L.ref8_CulpritsFault (n : Int) (culprits : (List (List Int))) (K : Int → Int → Prop) : Prop where
  out : L.ref8_CulpritsFault_B n culprits K
def L.ref8_CulpritsFault_ss : List Sh := [.int .i64, .ro (.slice (.int .i64))]
def L.ref8_CulpritsFault_G (vs : List V) (K : V → List Ob → Prop) : Prop := L.ref8_CulpritsFault (gI (vs.getD 0 .any)) (gR (.slice (.int .i64)) (vs.getD 1 .any)) (fun r0 r1 => K (.agg [.x (.int .i64 r0), .x (.int .i64 r1)]) [])
def L.ref8_CulpritsFault_S : SemF := fun args K => argF L.ref8_CulpritsFault_ss args fun a => L.ref8_CulpritsFault_G a K
theorem L.ref8_CulpritsFault_eq (n : Int) (culprits : (List (List Int))) (K : V → List Ob → Prop) : run Try.prog L.Γ_ref8_CulpritsFault L.Δ_ref8_CulpritsFault (.node .leaf (.node .leaf (.node .leaf (.node (.node .leaf (.lift L.ref8_CulpritsFault_L1_d 47 L.ref8_CulpritsFault_L1_F)) .leaf)))) .any Try.f8 [.x (.int .i64 n), .ro (.slice (.int .i64)) culprits] K = L.ref8_CulpritsFault_B n culprits (fun r0 r1 => K (.agg [.x (.int .i64 r0), .x (.int .i64 r1)]) []) := by
  kernel_rfl
theorem L.ref8_CulpritsFault_imp (vs : List V) (K : V → List Ob → Prop) (h : L.ref8_CulpritsFault_G vs K) : run Try.prog L.Γ_ref8_CulpritsFault L.Δ_ref8_CulpritsFault (.node .leaf (.node .leaf (.node .leaf (.node (.node .leaf (.lift L.ref8_CulpritsFault_L1_d 47 L.ref8_CulpritsFault_L1_F)) .leaf)))) .any Try.f8 (mkL L.ref8_CulpritsFault_ss 0 vs) K :=
  Eq.mpr (Eq.trans (b := run Try.prog L.Γ_ref8_CulpritsFault L.Δ_ref8_CulpritsFault (.node .leaf (.node .leaf (.node .leaf (.node (.node .leaf (.lift L.ref8_CulpritsFault_L1_d 47 L.ref8_CulpritsFault_L1_F)) .leaf)))) .any Try.f8 [.x (.int .i64 (gI (vs.getD 0 .any))), .ro (.slice (.int .i64)) (gR (.slice (.int .i64)) (vs.getD 1 .any))] K) (by kernel_rfl) (L.ref8_CulpritsFault_eq (gI (vs.getD 0 .any)) (gR (.slice (.int .i64)) (vs.getD 1 .any)) K)) (L.ref8_CulpritsFault.out h)
theorem L.ref8_CulpritsFault_ok : SoundFn Try.prog 8 L.ref8_CulpritsFault_S :=
  fn_ok (sem := run Try.prog L.Γ_ref8_CulpritsFault L.Δ_ref8_CulpritsFault (.node .leaf (.node .leaf (.node .leaf (.node (.node .leaf (.lift L.ref8_CulpritsFault_L1_d 47 L.ref8_CulpritsFault_L1_F)) .leaf)))) .any Try.f8) (ss := L.ref8_CulpritsFault_ss) (G := L.ref8_CulpritsFault_G) (run_ok L.Γ_ref8_CulpritsFault_ok L.Δ_ref8_CulpritsFault_ok Try.func8 (ann := (.node .leaf (.node .leaf (.node .leaf (.node (.node .leaf (.lift L.ref8_CulpritsFault_L1_d 47 L.ref8_CulpritsFault_L1_F)) .leaf))))) ⟨(annOk_leaf _), ⟨(annOk_leaf _), ⟨(annOk_leaf _), ⟨⟨(annOk_leaf _), L.ref8_CulpritsFault_L1_ok⟩, (annOk_leaf _)⟩⟩⟩⟩) L.ref8_CulpritsFault_imp
/-- changeforge/batchbisect.list -/
def L.Γ_batchbisect_list : Ctx := ctxC L.Γ_ref8_CulpritsFault 8 L.ref8_CulpritsFault_S
theorem L.Γ_batchbisect_list_ok : SoundG Try.prog L.Γ_batchbisect_list := ctxC_ok L.Γ_ref8_CulpritsFault_ok L.ref8_CulpritsFault_ok
def L.Δ_batchbisect_list : CtxO := L.Δ_ref8_CulpritsFault
theorem L.Δ_batchbisect_list_ok : SoundGO Try.prog L.Δ_batchbisect_list := L.Δ_ref8_CulpritsFault_ok
def L.batchbisect_list_L1_b (n1 : Int) (l1 : (List Int)) (v7 : (List Int)) (v8 : Int) (v9 : Int) (self : Int → Prop) (Kx0 : Prop) (Kr : Int → Prop) : Prop :=
  (bif (decide (v9 < v8)) then (inB v9 v7.length) ∧ (bif (bif (decide ((v7.getD v9.toNat 0) < 0)) then true else (decide ((v7.getD v9.toNat 0) ≥ n1))) then Kr 3 else ((((decide (v9 > 0)) == true) = true → inB (i64 (v9 - 1)) l1.length)) ∧ (bif (bif (decide (v9 > 0)) then (decide ((v7.getD v9.toNat 0) ≤ (l1.getD ((i64 (v9 - 1)).toNat) 0))) else false) then Kr 5 else self (i64 (v9 + 1)))) else Kx0)
def L.batchbisect_list_L1_R (n1 : Int) (l1 : (List Int)) (v7 : (List Int)) (v8 : Int) : Nat → Int → (Prop) → (Int → Prop) → Prop
  | 0, _, _, _ => False
  | fu + 1, v9, Kx0, Kr => L.batchbisect_list_L1_b n1 l1 v7 v8 v9 (fun v9 => L.batchbisect_list_L1_R n1 l1 v7 v8 fu v9 Kx0 Kr) Kx0 Kr
structure L.batchbisect_list_L1 (n1 : Int) (l1 : (List Int)) (v7 : (List Int)) (v8 : Int) (v9 : Int) (Kx0 : Prop) (Kr : Int → Prop) : Prop where
  out : ∃ fu, L.batchbisect_list_L1_R n1 l1 v7 v8 fu v9 Kx0 Kr
def L.batchbisect_list_L1_d : LoopD := { keep := [0, 1, 7, 8, 9], vecs := [], out := [], rets := [4] }
def L.batchbisect_list_L1_ss : List Sh := [.int .i64, .ro (.int .i64), .ro (.int .i64), .int .i64, .int .i64]
def L.batchbisect_list_L1_os : List OSh := []
def L.batchbisect_list_L1_G (vs : List V) (st : List Ob) (K : Ex → St) : Prop := L.batchbisect_list_L1 (gI (vs.getD 0 .any)) (gR (.int .i64) (vs.getD 1 .any)) (gR (.int .i64) (vs.getD 2 .any)) (gI (vs.getD 3 .any)) (gI (vs.getD 4 .any)) (K (.exit 0) (setVs [] 0 (bld [] [] 0 33)) []) (fun r0 => K .ret (bld [4] [.x (.int .i64 r0)] 0 33) [])
def L.batchbisect_list_L1_F (vs : List V) (st : List Ob) (K : Ex → St) : Prop := fitF L.batchbisect_list_L1_ss L.batchbisect_list_L1_os vs st (L.batchbisect_list_L1_G vs st K)
theorem L.batchbisect_list_L1_eq (n1 : Int) (l1 : (List Int)) (v7 : (List Int)) (v8 : Int) (K : Ex → St) : ∀ (fu : Nat) (v9 : Int), L.batchbisect_list_L1_R n1 l1 v7 v8 fu v9 (K (.exit 0) (setVs [] 0 (bld [] [] 0 33)) []) (fun r0 => K .ret (bld [4] [.x (.int .i64 r0)] 0 33) []) = iterL (stepL (exec Try.prog (CC Try.prog L.Γ_batchbisect_list L.Δ_batchbisect_list) (drawD Try.prog L.Γ_batchbisect_list) .leaf (sub [true, false, true, false, false] (codeOf Try.f24))) 0 L.batchbisect_list_L1_d K) fu (setVs L.batchbisect_list_L1_d.vecs 0 (bld L.batchbisect_list_L1_d.keep [.x (.int .i64 n1), .ro (.int .i64) l1, .ro (.int .i64) v7, .x (.int .i64 v8), .x (.int .i64 v9)] 0 33)) [] := by
  intro fu
  induction fu with
  | zero => intros; rfl
  | succ fu ih =>
    intro v9
    have e : (fun v9 => L.batchbisect_list_L1_R n1 l1 v7 v8 fu v9 (K (.exit 0) (setVs [] 0 (bld [] [] 0 33)) []) (fun r0 => K .ret (bld [4] [.x (.int .i64 r0)] 0 33) [])) = fun v9 => iterL (stepL (exec Try.prog (CC Try.prog L.Γ_batchbisect_list L.Δ_batchbisect_list) (drawD Try.prog L.Γ_batchbisect_list) .leaf (sub [true, false, true, false, false] (codeOf Try.f24))) 0 L.batchbisect_list_L1_d K) fu (setVs L.batchbisect_list_L1_d.vecs 0 (bld L.batchbisect_list_L1_d.keep [.x (.int .i64 n1), .ro (.int .i64) l1, .ro (.int .i64) v7, .x (.int .i64 v8), .x (.int .i64 v9)] 0 33)) [] := by
      funext v9; exact ih v9
    show L.batchbisect_list_L1_b n1 l1 v7 v8 v9 (fun v9 => L.batchbisect_list_L1_R n1 l1 v7 v8 fu v9 (K (.exit 0) (setVs [] 0 (bld [] [] 0 33)) []) (fun r0 => K .ret (bld [4] [.x (.int .i64 r0)] 0 33) [])) (K (.exit 0) (setVs [] 0 (bld [] [] 0 33)) []) (fun r0 => K .ret (bld [4] [.x (.int .i64 r0)] 0 33) []) = _
    rw [e]
    kernel_rfl
theorem L.batchbisect_list_L1_imp (vs : List V) (st : List Ob) (K : Ex → St) (h : L.batchbisect_list_L1_G vs st K) : ∃ fu, iterL (stepL (exec Try.prog (CC Try.prog L.Γ_batchbisect_list L.Δ_batchbisect_list) (drawD Try.prog L.Γ_batchbisect_list) .leaf (sub [true, false, true, false, false] (codeOf Try.f24))) 0 L.batchbisect_list_L1_d K) fu (setVs L.batchbisect_list_L1_d.vecs 0 (bld L.batchbisect_list_L1_d.keep (mkL L.batchbisect_list_L1_ss 0 vs) 0 33)) (mkOs L.batchbisect_list_L1_os 0 st) :=
  exMap (fun fu h => Eq.mp (Eq.trans (L.batchbisect_list_L1_eq (gI (vs.getD 0 .any)) (gR (.int .i64) (vs.getD 1 .any)) (gR (.int .i64) (vs.getD 2 .any)) (gI (vs.getD 3 .any)) K fu (gI (vs.getD 4 .any))) (by kernel_rfl)) h) (L.batchbisect_list_L1.out h)
theorem L.batchbisect_list_L1_ok : AnnOk Try.prog (CC Try.prog L.Γ_batchbisect_list L.Δ_batchbisect_list) (drawD Try.prog L.Γ_batchbisect_list) 0 (.lift L.batchbisect_list_L1_d 33 L.batchbisect_list_L1_F) (.loop (sub [true, false, true, false, false] (codeOf Try.f24))) :=
  lift_ok (an := .leaf) (ss := L.batchbisect_list_L1_ss) (os := L.batchbisect_list_L1_os) (G := L.batchbisect_list_L1_G) (L0 := 0) rfl (annOk_leaf _) rfl L.batchbisect_list_L1_imp
def L.batchbisect_list_B (n : Int) (l : (List Int)) (K : Int → Prop) : Prop :=
  L.batchbisect_list_L1 n l l (l.length : Int) 0 (K 0) (fun r => K r)
structure L.batchbisect_list (n : Int) (l : (List Int)) (K : Int → Prop) : Prop where
  out : L.batchbisect_list_B n l K
def L.batchbisect_list_ss : List Sh := [.int .i64, .ro (.int .i64)]
def L.batchbisect_list_G (vs : List V) (K : V → List Ob → Prop) : Prop := L.batchbisect_list (gI (vs.getD 0 .any)) (gR (.int .i64) (vs.getD 1 .any)) (fun r0 => K (.x (.int .i64 r0)) [])
def L.batchbisect_list_S : SemF := fun args K => argF L.batchbisect_list_ss args fun a => L.batchbisect_list_G a K
theorem L.batchbisect_list_eq (n : Int) (l : (List Int)) (K : V → List Ob → Prop) : run Try.prog L.Γ_batchbisect_list L.Δ_batchbisect_list (.node .leaf (.node (.node .leaf (.lift L.batchbisect_list_L1_d 33 L.batchbisect_list_L1_F)) .leaf)) .any Try.f24 [.x (.int .i64 n), .ro (.int .i64) l] K = L.batchbisect_list_B n l (fun r0 => K (.x (.int .i64 r0)) []) := by
  kernel_rfl
theorem L.batchbisect_list_imp (vs : List V) (K : V → List Ob → Prop) (h : L.batchbisect_list_G vs K) : run Try.prog L.Γ_batchbisect_list L.Δ_batchbisect_list (.node .leaf (.node (.node .leaf (.lift L.batchbisect_list_L1_d 33 L.batchbisect_list_L1_F)) .leaf)) .any Try.f24 (mkL L.batchbisect_list_ss 0 vs) K :=
  Eq.mpr (Eq.trans (b := run Try.prog L.Γ_batchbisect_list L.Δ_batchbisect_list (.node .leaf (.node (.node .leaf (.lift L.batchbisect_list_L1_d 33 L.batchbisect_list_L1_F)) .leaf)) .any Try.f24 [.x (.int .i64 (gI (vs.getD 0 .any))), .ro (.int .i64) (gR (.int .i64) (vs.getD 1 .any))] K) (by kernel_rfl) (L.batchbisect_list_eq (gI (vs.getD 0 .any)) (gR (.int .i64) (vs.getD 1 .any)) K)) (L.batchbisect_list.out h)
theorem L.batchbisect_list_ok : SoundFn Try.prog 24 L.batchbisect_list_S :=
  fn_ok (sem := run Try.prog L.Γ_batchbisect_list L.Δ_batchbisect_list (.node .leaf (.node (.node .leaf (.lift L.batchbisect_list_L1_d 33 L.batchbisect_list_L1_F)) .leaf)) .any Try.f24) (ss := L.batchbisect_list_ss) (G := L.batchbisect_list_G) (run_ok L.Γ_batchbisect_list_ok L.Δ_batchbisect_list_ok Try.func24 (ann := (.node .leaf (.node (.node .leaf (.lift L.batchbisect_list_L1_d 33 L.batchbisect_list_L1_F)) .leaf))) ⟨(annOk_leaf _), ⟨⟨(annOk_leaf _), L.batchbisect_list_L1_ok⟩, (annOk_leaf _)⟩⟩) L.batchbisect_list_imp
/-- changeforge/batchbisect.Validate -/
def L.Γ_batchbisect_Validate : Ctx := ctxC L.Γ_batchbisect_list 24 L.batchbisect_list_S
theorem L.Γ_batchbisect_Validate_ok : SoundG Try.prog L.Γ_batchbisect_Validate := ctxC_ok L.Γ_batchbisect_list_ok L.batchbisect_list_ok
def L.Δ_batchbisect_Validate : CtxO := L.Δ_batchbisect_list
theorem L.Δ_batchbisect_Validate_ok : SoundGO Try.prog L.Δ_batchbisect_Validate := L.Δ_batchbisect_list_ok
def L.batchbisect_Validate_J2_B (i_ : Int) (code : Int) (Kn : Prop) (Kr : Int → Int → Prop) : Prop :=
  (bif (code != 0) then Kr code i_ else Kn)
structure L.batchbisect_Validate_J2 (i_ : Int) (code : Int) (Kn : Prop) (Kr : Int → Int → Prop) : Prop where
  out : L.batchbisect_Validate_J2_B i_ code Kn Kr
def L.batchbisect_Validate_J2_d : CutD := { base := 1, vecs := [], keep := [0, 4, 5, 7, 19, 20, 21], out := [0, 4, 19, 20, 21], rets := [4] }
def L.batchbisect_Validate_J2_ss : List Sh := [.int .i64, .cl 0 0, .int .i64, .int .i64, .ro (.slice (.int .i64)), .int .i64, .int .i64]
def L.batchbisect_Validate_J2_os : List OSh := [.cells [.int .i64, .int .i64]]
def L.batchbisect_Validate_J2_G (vs : List V) (st : List Ob) (K : Ex → St) : Prop := L.batchbisect_Validate_J2 (gI (vs.getD 2 .any)) (gI (vs.getD 3 .any)) (K .normal (bld [0, 4, 19, 20, 21] [.x (.int .i64 (gI (vs.getD 0 .any))), .cl 0 0, .ro (.slice (.int .i64)) (gR (.slice (.int .i64)) (vs.getD 4 .any)), .x (.int .i64 (gI (vs.getD 5 .any))), .x (.int .i64 (gI (vs.getD 6 .any)))] 0 39) [.cells [.x (.int .i64 (gI ((oC (st.getD 0 .dead)).getD 0 .any))), .x (.int .i64 (gI ((oC (st.getD 0 .dead)).getD 1 .any)))]]) (fun r0 r1 => K .ret (bld [4] [.cl 0 0] 0 39) [.cells [.x (.int .i64 r0), .x (.int .i64 r1)]])
def L.batchbisect_Validate_J2_F (vs : List V) (st : List Ob) (K : Ex → St) : Prop := fitF L.batchbisect_Validate_J2_ss L.batchbisect_Validate_J2_os vs st (L.batchbisect_Validate_J2_G vs st K)
theorem L.batchbisect_Validate_J2_eq (n2 : Int) (i_ : Int) (code : Int) (v191 : (List (List Int))) (v201 : Int) (v211 : Int) (m02 : Int) (m03 : Int) (K : Ex → St) : L.batchbisect_Validate_J2_B i_ code (K .normal (bld [0, 4, 19, 20, 21] [.x (.int .i64 n2), .cl 0 0, .ro (.slice (.int .i64)) v191, .x (.int .i64 v201), .x (.int .i64 v211)] 0 39) [.cells [.x (.int .i64 m02), .x (.int .i64 m03)]]) (fun r0 r1 => K .ret (bld [4] [.cl 0 0] 0 39) [.cells [.x (.int .i64 r0), .x (.int .i64 r1)]]) = exec Try.prog (CC Try.prog L.Γ_batchbisect_Validate L.Δ_batchbisect_Validate) (drawD Try.prog L.Γ_batchbisect_Validate) .leaf (sub [true, true, true, false, true, false, false, true, true, false, false, true, true, true] (codeOf Try.f14)) (setVs L.batchbisect_Validate_J2_d.vecs L.batchbisect_Validate_J2_d.base (bld L.batchbisect_Validate_J2_d.keep [.x (.int .i64 n2), .cl 0 0, .x (.int .i64 i_), .x (.int .i64 code), .ro (.slice (.int .i64)) v191, .x (.int .i64 v201), .x (.int .i64 v211)] 0 39)) [.cells [.x (.int .i64 m02), .x (.int .i64 m03)]] (cutK L.batchbisect_Validate_J2_d K) := by
  kernel_rfl
theorem L.batchbisect_Validate_J2_ok (vs : List V) (st : List Ob) (K : Ex → St) (h : L.batchbisect_Validate_J2_G vs st K) : exec Try.prog (CC Try.prog L.Γ_batchbisect_Validate L.Δ_batchbisect_Validate) (drawD Try.prog L.Γ_batchbisect_Validate) .leaf (sub [true, true, true, false, true, false, false, true, true, false, false, true, true, true] (codeOf Try.f14)) (setVs L.batchbisect_Validate_J2_d.vecs L.batchbisect_Validate_J2_d.base (bld L.batchbisect_Validate_J2_d.keep (mkL L.batchbisect_Validate_J2_ss 0 vs) 0 39)) (mkOs L.batchbisect_Validate_J2_os 0 st) (cutK L.batchbisect_Validate_J2_d K) :=
  Eq.mp (Eq.trans (L.batchbisect_Validate_J2_eq (gI (vs.getD 0 .any)) (gI (vs.getD 2 .any)) (gI (vs.getD 3 .any)) (gR (.slice (.int .i64)) (vs.getD 4 .any)) (gI (vs.getD 5 .any)) (gI (vs.getD 6 .any)) (gI ((oC (st.getD 0 .dead)).getD 0 .any)) (gI ((oC (st.getD 0 .dead)).getD 1 .any)) K) (by kernel_rfl)) (L.batchbisect_Validate_J2.out h)
def L.batchbisect_Validate_L1_b (n1 : Int) (v19 : (List (List Int))) (v20 : Int) (v21 : Int) (self : Int → Prop) (Kx0 : Prop) (Kr : Int → Int → Prop) : Prop :=
  (bif (decide (v21 < v20)) then (inB v21 v19.length) ∧ L.batchbisect_list n1 (v19.getD v21.toNat []) (fun r => (bif (((v19.getD v21.toNat []).length : Int) == 0) then L.batchbisect_Validate_J2 v21 9 (self (i64 (v21 + 1))) Kr else L.batchbisect_Validate_J2 v21 r (self (i64 (v21 + 1))) Kr)) else Kx0)
def L.batchbisect_Validate_L1_R (n1 : Int) (v19 : (List (List Int))) (v20 : Int) : Nat → Int → (Prop) → (Int → Int → Prop) → Prop
  | 0, _, _, _ => False
  | fu + 1, v21, Kx0, Kr => L.batchbisect_Validate_L1_b n1 v19 v20 v21 (fun v21 => L.batchbisect_Validate_L1_R n1 v19 v20 fu v21 Kx0 Kr) Kx0 Kr
structure L.batchbisect_Validate_L1 (n1 : Int) (v19 : (List (List Int))) (v20 : Int) (v21 : Int) (Kx0 : Prop) (Kr : Int → Int → Prop) : Prop where
  out : ∃ fu, L.batchbisect_Validate_L1_R n1 v19 v20 fu v21 Kx0 Kr
def L.batchbisect_Validate_L1_d : LoopD := { keep := [0, 4, 19, 20, 21], vecs := [], out := [4], rets := [4] }
def L.batchbisect_Validate_L1_ss : List Sh := [.int .i64, .cl 0 0, .ro (.slice (.int .i64)), .int .i64, .int .i64]
def L.batchbisect_Validate_L1_os : List OSh := [.cells [.int .i64, .int .i64]]
def L.batchbisect_Validate_L1_G (vs : List V) (st : List Ob) (K : Ex → St) : Prop := L.batchbisect_Validate_L1 (gI (vs.getD 0 .any)) (gR (.slice (.int .i64)) (vs.getD 2 .any)) (gI (vs.getD 3 .any)) (gI (vs.getD 4 .any)) (K (.exit 0) (setVs [] 1 (bld [4] [.cl 0 0] 0 39)) [.cells [.x (.int .i64 (gI ((oC (st.getD 0 .dead)).getD 0 .any))), .x (.int .i64 (gI ((oC (st.getD 0 .dead)).getD 1 .any)))]]) (fun r0 r1 => K .ret (bld [4] [.cl 0 0] 0 39) [.cells [.x (.int .i64 r0), .x (.int .i64 r1)]])
def L.batchbisect_Validate_L1_F (vs : List V) (st : List Ob) (K : Ex → St) : Prop := fitF L.batchbisect_Validate_L1_ss L.batchbisect_Validate_L1_os vs st (L.batchbisect_Validate_L1_G vs st K)
theorem L.batchbisect_Validate_L1_eq (n1 : Int) (v19 : (List (List Int))) (v20 : Int) (m0 : Int) (m01 : Int) (K : Ex → St) : ∀ (fu : Nat) (v21 : Int), L.batchbisect_Validate_L1_R n1 v19 v20 fu v21 (K (.exit 0) (setVs [] 1 (bld [4] [.cl 0 0] 0 39)) [.cells [.x (.int .i64 m0), .x (.int .i64 m01)]]) (fun r0 r1 => K .ret (bld [4] [.cl 0 0] 0 39) [.cells [.x (.int .i64 r0), .x (.int .i64 r1)]]) = iterL (stepL (exec Try.prog (CC Try.prog L.Γ_batchbisect_Validate L.Δ_batchbisect_Validate) (drawD Try.prog L.Γ_batchbisect_Validate) (.node .leaf (.node .leaf (.node (.node .leaf (.node .leaf (.cut .leaf L.batchbisect_Validate_J2_d 39 L.batchbisect_Validate_J2_F))) .leaf))) (sub [true, true, true, false, true, false, false] (codeOf Try.f14))) 1 L.batchbisect_Validate_L1_d K) fu (setVs L.batchbisect_Validate_L1_d.vecs 1 (bld L.batchbisect_Validate_L1_d.keep [.x (.int .i64 n1), .cl 0 0, .ro (.slice (.int .i64)) v19, .x (.int .i64 v20), .x (.int .i64 v21)] 0 39)) [.cells [.x (.int .i64 m0), .x (.int .i64 m01)]] := by
  intro fu
  induction fu with
  | zero => intros; rfl
  | succ fu ih =>
    intro v21
    have e : (fun v21 => L.batchbisect_Validate_L1_R n1 v19 v20 fu v21 (K (.exit 0) (setVs [] 1 (bld [4] [.cl 0 0] 0 39)) [.cells [.x (.int .i64 m0), .x (.int .i64 m01)]]) (fun r0 r1 => K .ret (bld [4] [.cl 0 0] 0 39) [.cells [.x (.int .i64 r0), .x (.int .i64 r1)]])) = fun v21 => iterL (stepL (exec Try.prog (CC Try.prog L.Γ_batchbisect_Validate L.Δ_batchbisect_Validate) (drawD Try.prog L.Γ_batchbisect_Validate) (.node .leaf (.node .leaf (.node (.node .leaf (.node .leaf (.cut .leaf L.batchbisect_Validate_J2_d 39 L.batchbisect_Validate_J2_F))) .leaf))) (sub [true, true, true, false, true, false, false] (codeOf Try.f14))) 1 L.batchbisect_Validate_L1_d K) fu (setVs L.batchbisect_Validate_L1_d.vecs 1 (bld L.batchbisect_Validate_L1_d.keep [.x (.int .i64 n1), .cl 0 0, .ro (.slice (.int .i64)) v19, .x (.int .i64 v20), .x (.int .i64 v21)] 0 39)) [.cells [.x (.int .i64 m0), .x (.int .i64 m01)]] := by
      funext v21; exact ih v21
    show L.batchbisect_Validate_L1_b n1 v19 v20 v21 (fun v21 => L.batchbisect_Validate_L1_R n1 v19 v20 fu v21 (K (.exit 0) (setVs [] 1 (bld [4] [.cl 0 0] 0 39)) [.cells [.x (.int .i64 m0), .x (.int .i64 m01)]]) (fun r0 r1 => K .ret (bld [4] [.cl 0 0] 0 39) [.cells [.x (.int .i64 r0), .x (.int .i64 r1)]])) (K (.exit 0) (setVs [] 1 (bld [4] [.cl 0 0] 0 39)) [.cells [.x (.int .i64 m0), .x (.int .i64 m01)]]) (fun r0 r1 => K .ret (bld [4] [.cl 0 0] 0 39) [.cells [.x (.int .i64 r0), .x (.int .i64 r1)]]) = _
    rw [e]
    kernel_rfl
theorem L.batchbisect_Validate_L1_imp (vs : List V) (st : List Ob) (K : Ex → St) (h : L.batchbisect_Validate_L1_G vs st K) : ∃ fu, iterL (stepL (exec Try.prog (CC Try.prog L.Γ_batchbisect_Validate L.Δ_batchbisect_Validate) (drawD Try.prog L.Γ_batchbisect_Validate) (.node .leaf (.node .leaf (.node (.node .leaf (.node .leaf (.cut .leaf L.batchbisect_Validate_J2_d 39 L.batchbisect_Validate_J2_F))) .leaf))) (sub [true, true, true, false, true, false, false] (codeOf Try.f14))) 1 L.batchbisect_Validate_L1_d K) fu (setVs L.batchbisect_Validate_L1_d.vecs 1 (bld L.batchbisect_Validate_L1_d.keep (mkL L.batchbisect_Validate_L1_ss 0 vs) 0 39)) (mkOs L.batchbisect_Validate_L1_os 0 st) :=
  exMap (fun fu h => Eq.mp (Eq.trans (L.batchbisect_Validate_L1_eq (gI (vs.getD 0 .any)) (gR (.slice (.int .i64)) (vs.getD 2 .any)) (gI (vs.getD 3 .any)) (gI ((oC (st.getD 0 .dead)).getD 0 .any)) (gI ((oC (st.getD 0 .dead)).getD 1 .any)) K fu (gI (vs.getD 4 .any))) (by kernel_rfl)) h) (L.batchbisect_Validate_L1.out h)
theorem L.batchbisect_Validate_L1_ok : AnnOk Try.prog (CC Try.prog L.Γ_batchbisect_Validate L.Δ_batchbisect_Validate) (drawD Try.prog L.Γ_batchbisect_Validate) 0 (.lift L.batchbisect_Validate_L1_d 39 L.batchbisect_Validate_L1_F) (.loop (sub [true, true, true, false, true, false, false] (codeOf Try.f14))) :=
  lift_ok (an := (.node .leaf (.node .leaf (.node (.node .leaf (.node .leaf (.cut .leaf L.batchbisect_Validate_J2_d 39 L.batchbisect_Validate_J2_F))) .leaf)))) (ss := L.batchbisect_Validate_L1_ss) (os := L.batchbisect_Validate_L1_os) (G := L.batchbisect_Validate_L1_G) (L0 := 1) rfl ⟨(annOk_leaf _), ⟨(annOk_leaf _), ⟨⟨(annOk_leaf _), ⟨(annOk_leaf _), (cut_ok (ay := .leaf) (ss := L.batchbisect_Validate_J2_ss) (os := L.batchbisect_Validate_J2_os) (G := L.batchbisect_Validate_J2_G) rfl (annOk_leaf _) (Nat.le_of_ble_eq_true rfl) (annOk_leaf _) L.batchbisect_Validate_J2_ok)⟩⟩, (annOk_leaf _)⟩⟩⟩ rfl L.batchbisect_Validate_L1_imp
def L.batchbisect_Validate_B (n : Int) (culprits : (List (List Int))) (K : Int → Int → Prop) : Prop :=
  (bif (bif (decide (n < 0)) then true else (decide (n > 16))) then K 3 (-1) else (bif (decide ((culprits.length : Int) > 8)) then K 2 (-1) else L.batchbisect_Validate_L1 n culprits (culprits.length : Int) 0 (K 0 0) (fun m m1 => K m m1)))
structure L.batchbisect_Validate (n : Int) (culprits : (List (List Int))) (K : Int → Int → Prop) : Prop where
  out : L.batchbisect_Validate_B n culprits K
def L.batchbisect_Validate_ss : List Sh := [.int .i64, .ro (.slice (.int .i64))]
def L.batchbisect_Validate_G (vs : List V) (K : V → List Ob → Prop) : Prop := L.batchbisect_Validate (gI (vs.getD 0 .any)) (gR (.slice (.int .i64)) (vs.getD 1 .any)) (fun r0 r1 => K (.agg [.x (.int .i64 r0), .x (.int .i64 r1)]) [])
def L.batchbisect_Validate_S : SemF := fun args K => argF L.batchbisect_Validate_ss args fun a => L.batchbisect_Validate_G a K
theorem L.batchbisect_Validate_eq (n : Int) (culprits : (List (List Int))) (K : V → List Ob → Prop) : run Try.prog L.Γ_batchbisect_Validate L.Δ_batchbisect_Validate (.node .leaf (.node .leaf (.node .leaf (.node (.node .leaf (.lift L.batchbisect_Validate_L1_d 39 L.batchbisect_Validate_L1_F)) .leaf)))) .any Try.f14 [.x (.int .i64 n), .ro (.slice (.int .i64)) culprits] K = L.batchbisect_Validate_B n culprits (fun r0 r1 => K (.agg [.x (.int .i64 r0), .x (.int .i64 r1)]) []) := by
  kernel_rfl
theorem L.batchbisect_Validate_imp (vs : List V) (K : V → List Ob → Prop) (h : L.batchbisect_Validate_G vs K) : run Try.prog L.Γ_batchbisect_Validate L.Δ_batchbisect_Validate (.node .leaf (.node .leaf (.node .leaf (.node (.node .leaf (.lift L.batchbisect_Validate_L1_d 39 L.batchbisect_Validate_L1_F)) .leaf)))) .any Try.f14 (mkL L.batchbisect_Validate_ss 0 vs) K :=
  Eq.mpr (Eq.trans (b := run Try.prog L.Γ_batchbisect_Validate L.Δ_batchbisect_Validate (.node .leaf (.node .leaf (.node .leaf (.node (.node .leaf (.lift L.batchbisect_Validate_L1_d 39 L.batchbisect_Validate_L1_F)) .leaf)))) .any Try.f14 [.x (.int .i64 (gI (vs.getD 0 .any))), .ro (.slice (.int .i64)) (gR (.slice (.int .i64)) (vs.getD 1 .any))] K) (by kernel_rfl) (L.batchbisect_Validate_eq (gI (vs.getD 0 .any)) (gR (.slice (.int .i64)) (vs.getD 1 .any)) K)) (L.batchbisect_Validate.out h)
theorem L.batchbisect_Validate_ok : SoundFn Try.prog 14 L.batchbisect_Validate_S :=
  fn_ok (sem := run Try.prog L.Γ_batchbisect_Validate L.Δ_batchbisect_Validate (.node .leaf (.node .leaf (.node .leaf (.node (.node .leaf (.lift L.batchbisect_Validate_L1_d 39 L.batchbisect_Validate_L1_F)) .leaf)))) .any Try.f14) (ss := L.batchbisect_Validate_ss) (G := L.batchbisect_Validate_G) (run_ok L.Γ_batchbisect_Validate_ok L.Δ_batchbisect_Validate_ok Try.func14 (ann := (.node .leaf (.node .leaf (.node .leaf (.node (.node .leaf (.lift L.batchbisect_Validate_L1_d 39 L.batchbisect_Validate_L1_F)) .leaf))))) ⟨(annOk_leaf _), ⟨(annOk_leaf _), ⟨(annOk_leaf _), ⟨⟨(annOk_leaf _), L.batchbisect_Validate_L1_ok⟩, (annOk_leaf _)⟩⟩⟩⟩) L.batchbisect_Validate_imp
/-- slices.Index[[]int,int] -/
def L.Γ_slices_Index : Ctx := ctxC L.Γ_batchbisect_Validate 14 L.batchbisect_Validate_S
theorem L.Γ_slices_Index_ok : SoundG Try.prog L.Γ_slices_Index := ctxC_ok L.Γ_batchbisect_Validate_ok L.batchbisect_Validate_ok
def L.Δ_slices_Index : CtxO := L.Δ_batchbisect_Validate
theorem L.Δ_slices_Index_ok : SoundGO Try.prog L.Δ_slices_Index := L.Δ_batchbisect_Validate_ok
def L.slices_Index_L1_b (s1 : (List Int)) (v1 : Int) (v7 : Int) (v8 : Int) (self : Int → Prop) (Kx0 : Prop) (Kr : Int → Prop) : Prop :=
  (bif (decide (v8 < v7)) then (inB v8 s1.length) ∧ (bif (v1 == (s1.getD v8.toNat 0)) then Kr v8 else self (i64 (v8 + 1))) else Kx0)
def L.slices_Index_L1_R (s1 : (List Int)) (v1 : Int) (v7 : Int) : Nat → Int → (Prop) → (Int → Prop) → Prop
  | 0, _, _, _ => False
  | fu + 1, v8, Kx0, Kr => L.slices_Index_L1_b s1 v1 v7 v8 (fun v8 => L.slices_Index_L1_R s1 v1 v7 fu v8 Kx0 Kr) Kx0 Kr
structure L.slices_Index_L1 (s1 : (List Int)) (v1 : Int) (v7 : Int) (v8 : Int) (Kx0 : Prop) (Kr : Int → Prop) : Prop where
  out : ∃ fu, L.slices_Index_L1_R s1 v1 v7 fu v8 Kx0 Kr
def L.slices_Index_L1_d : LoopD := { keep := [0, 1, 7, 8], vecs := [], out := [], rets := [4] }
def L.slices_Index_L1_ss : List Sh := [.ro (.int .i64), .int .i64, .int .i64, .int .i64]
def L.slices_Index_L1_os : List OSh := []
def L.slices_Index_L1_G (vs : List V) (st : List Ob) (K : Ex → St) : Prop := L.slices_Index_L1 (gR (.int .i64) (vs.getD 0 .any)) (gI (vs.getD 1 .any)) (gI (vs.getD 2 .any)) (gI (vs.getD 3 .any)) (K (.exit 0) (setVs [] 0 (bld [] [] 0 19)) []) (fun r0 => K .ret (bld [4] [.x (.int .i64 r0)] 0 19) [])
def L.slices_Index_L1_F (vs : List V) (st : List Ob) (K : Ex → St) : Prop := fitF L.slices_Index_L1_ss L.slices_Index_L1_os vs st (L.slices_Index_L1_G vs st K)
theorem L.slices_Index_L1_eq (s1 : (List Int)) (v1 : Int) (v7 : Int) (K : Ex → St) : ∀ (fu : Nat) (v8 : Int), L.slices_Index_L1_R s1 v1 v7 fu v8 (K (.exit 0) (setVs [] 0 (bld [] [] 0 19)) []) (fun r0 => K .ret (bld [4] [.x (.int .i64 r0)] 0 19) []) = iterL (stepL (exec Try.prog (CC Try.prog L.Γ_slices_Index L.Δ_slices_Index) (drawD Try.prog L.Γ_slices_Index) .leaf (sub [true, false, true, false, false] (codeOf Try.f36))) 0 L.slices_Index_L1_d K) fu (setVs L.slices_Index_L1_d.vecs 0 (bld L.slices_Index_L1_d.keep [.ro (.int .i64) s1, .x (.int .i64 v1), .x (.int .i64 v7), .x (.int .i64 v8)] 0 19)) [] := by
  intro fu
  induction fu with
  | zero => intros; rfl
  | succ fu ih =>
    intro v8
    have e : (fun v8 => L.slices_Index_L1_R s1 v1 v7 fu v8 (K (.exit 0) (setVs [] 0 (bld [] [] 0 19)) []) (fun r0 => K .ret (bld [4] [.x (.int .i64 r0)] 0 19) [])) = fun v8 => iterL (stepL (exec Try.prog (CC Try.prog L.Γ_slices_Index L.Δ_slices_Index) (drawD Try.prog L.Γ_slices_Index) .leaf (sub [true, false, true, false, false] (codeOf Try.f36))) 0 L.slices_Index_L1_d K) fu (setVs L.slices_Index_L1_d.vecs 0 (bld L.slices_Index_L1_d.keep [.ro (.int .i64) s1, .x (.int .i64 v1), .x (.int .i64 v7), .x (.int .i64 v8)] 0 19)) [] := by
      funext v8; exact ih v8
    show L.slices_Index_L1_b s1 v1 v7 v8 (fun v8 => L.slices_Index_L1_R s1 v1 v7 fu v8 (K (.exit 0) (setVs [] 0 (bld [] [] 0 19)) []) (fun r0 => K .ret (bld [4] [.x (.int .i64 r0)] 0 19) [])) (K (.exit 0) (setVs [] 0 (bld [] [] 0 19)) []) (fun r0 => K .ret (bld [4] [.x (.int .i64 r0)] 0 19) []) = _
    rw [e]
    kernel_rfl
theorem L.slices_Index_L1_imp (vs : List V) (st : List Ob) (K : Ex → St) (h : L.slices_Index_L1_G vs st K) : ∃ fu, iterL (stepL (exec Try.prog (CC Try.prog L.Γ_slices_Index L.Δ_slices_Index) (drawD Try.prog L.Γ_slices_Index) .leaf (sub [true, false, true, false, false] (codeOf Try.f36))) 0 L.slices_Index_L1_d K) fu (setVs L.slices_Index_L1_d.vecs 0 (bld L.slices_Index_L1_d.keep (mkL L.slices_Index_L1_ss 0 vs) 0 19)) (mkOs L.slices_Index_L1_os 0 st) :=
  exMap (fun fu h => Eq.mp (Eq.trans (L.slices_Index_L1_eq (gR (.int .i64) (vs.getD 0 .any)) (gI (vs.getD 1 .any)) (gI (vs.getD 2 .any)) K fu (gI (vs.getD 3 .any))) (by kernel_rfl)) h) (L.slices_Index_L1.out h)
theorem L.slices_Index_L1_ok : AnnOk Try.prog (CC Try.prog L.Γ_slices_Index L.Δ_slices_Index) (drawD Try.prog L.Γ_slices_Index) 0 (.lift L.slices_Index_L1_d 19 L.slices_Index_L1_F) (.loop (sub [true, false, true, false, false] (codeOf Try.f36))) :=
  lift_ok (an := .leaf) (ss := L.slices_Index_L1_ss) (os := L.slices_Index_L1_os) (G := L.slices_Index_L1_G) (L0 := 0) rfl (annOk_leaf _) rfl L.slices_Index_L1_imp
def L.slices_Index_B (s : (List Int)) (v : Int) (K : Int → Prop) : Prop :=
  L.slices_Index_L1 s v (s.length : Int) 0 (K (-1)) (fun r => K r)
structure L.slices_Index (s : (List Int)) (v : Int) (K : Int → Prop) : Prop where
  out : L.slices_Index_B s v K
def L.slices_Index_ss : List Sh := [.ro (.int .i64), .int .i64]
def L.slices_Index_G (vs : List V) (K : V → List Ob → Prop) : Prop := L.slices_Index (gR (.int .i64) (vs.getD 0 .any)) (gI (vs.getD 1 .any)) (fun r0 => K (.x (.int .i64 r0)) [])
def L.slices_Index_S : SemF := fun args K => argF L.slices_Index_ss args fun a => L.slices_Index_G a K
theorem L.slices_Index_eq (s : (List Int)) (v : Int) (K : V → List Ob → Prop) : run Try.prog L.Γ_slices_Index L.Δ_slices_Index (.node .leaf (.node (.node .leaf (.lift L.slices_Index_L1_d 19 L.slices_Index_L1_F)) .leaf)) .any Try.f36 [.ro (.int .i64) s, .x (.int .i64 v)] K = L.slices_Index_B s v (fun r0 => K (.x (.int .i64 r0)) []) := by
  kernel_rfl
theorem L.slices_Index_imp (vs : List V) (K : V → List Ob → Prop) (h : L.slices_Index_G vs K) : run Try.prog L.Γ_slices_Index L.Δ_slices_Index (.node .leaf (.node (.node .leaf (.lift L.slices_Index_L1_d 19 L.slices_Index_L1_F)) .leaf)) .any Try.f36 (mkL L.slices_Index_ss 0 vs) K :=
  Eq.mpr (Eq.trans (b := run Try.prog L.Γ_slices_Index L.Δ_slices_Index (.node .leaf (.node (.node .leaf (.lift L.slices_Index_L1_d 19 L.slices_Index_L1_F)) .leaf)) .any Try.f36 [.ro (.int .i64) (gR (.int .i64) (vs.getD 0 .any)), .x (.int .i64 (gI (vs.getD 1 .any)))] K) (by kernel_rfl) (L.slices_Index_eq (gR (.int .i64) (vs.getD 0 .any)) (gI (vs.getD 1 .any)) K)) (L.slices_Index.out h)
theorem L.slices_Index_ok : SoundFn Try.prog 36 L.slices_Index_S :=
  fn_ok (sem := run Try.prog L.Γ_slices_Index L.Δ_slices_Index (.node .leaf (.node (.node .leaf (.lift L.slices_Index_L1_d 19 L.slices_Index_L1_F)) .leaf)) .any Try.f36) (ss := L.slices_Index_ss) (G := L.slices_Index_G) (run_ok L.Γ_slices_Index_ok L.Δ_slices_Index_ok Try.func36 (ann := (.node .leaf (.node (.node .leaf (.lift L.slices_Index_L1_d 19 L.slices_Index_L1_F)) .leaf))) ⟨(annOk_leaf _), ⟨⟨(annOk_leaf _), L.slices_Index_L1_ok⟩, (annOk_leaf _)⟩⟩) L.slices_Index_imp
/-- slices.Contains[[]int,int] -/
def L.Γ_slices_Contains : Ctx := ctxC L.Γ_slices_Index 36 L.slices_Index_S
theorem L.Γ_slices_Contains_ok : SoundG Try.prog L.Γ_slices_Contains := ctxC_ok L.Γ_slices_Index_ok L.slices_Index_ok
def L.Δ_slices_Contains : CtxO := L.Δ_slices_Index
theorem L.Δ_slices_Contains_ok : SoundGO Try.prog L.Δ_slices_Contains := L.Δ_slices_Index_ok
def L.slices_Contains_B (s : (List Int)) (v : Int) (K : Bool → Prop) : Prop :=
  L.slices_Index s v (fun r => K (decide (r ≥ 0)))
structure L.slices_Contains (s : (List Int)) (v : Int) (K : Bool → Prop) : Prop where
  out : L.slices_Contains_B s v K
def L.slices_Contains_ss : List Sh := [.ro (.int .i64), .int .i64]
def L.slices_Contains_G (vs : List V) (K : V → List Ob → Prop) : Prop := L.slices_Contains (gR (.int .i64) (vs.getD 0 .any)) (gI (vs.getD 1 .any)) (fun r0 => K (.x (.bool r0)) [])
def L.slices_Contains_S : SemF := fun args K => argF L.slices_Contains_ss args fun a => L.slices_Contains_G a K
theorem L.slices_Contains_eq (s : (List Int)) (v : Int) (K : V → List Ob → Prop) : run Try.prog L.Γ_slices_Contains L.Δ_slices_Contains .leaf .any Try.f27 [.ro (.int .i64) s, .x (.int .i64 v)] K = L.slices_Contains_B s v (fun r0 => K (.x (.bool r0)) []) := by
  kernel_rfl
theorem L.slices_Contains_imp (vs : List V) (K : V → List Ob → Prop) (h : L.slices_Contains_G vs K) : run Try.prog L.Γ_slices_Contains L.Δ_slices_Contains .leaf .any Try.f27 (mkL L.slices_Contains_ss 0 vs) K :=
  Eq.mpr (Eq.trans (b := run Try.prog L.Γ_slices_Contains L.Δ_slices_Contains .leaf .any Try.f27 [.ro (.int .i64) (gR (.int .i64) (vs.getD 0 .any)), .x (.int .i64 (gI (vs.getD 1 .any)))] K) (by kernel_rfl) (L.slices_Contains_eq (gR (.int .i64) (vs.getD 0 .any)) (gI (vs.getD 1 .any)) K)) (L.slices_Contains.out h)
theorem L.slices_Contains_ok : SoundFn Try.prog 27 L.slices_Contains_S :=
  fn_ok (sem := run Try.prog L.Γ_slices_Contains L.Δ_slices_Contains .leaf .any Try.f27) (ss := L.slices_Contains_ss) (G := L.slices_Contains_G) (run_ok L.Γ_slices_Contains_ok L.Δ_slices_Contains_ok Try.func27 (ann := .leaf) (annOk_leaf _)) L.slices_Contains_imp
/-- changeforge/batchbisect.Fails$1 -/
def L.Γ_batchbisect_Fails_1_v8 : Ctx := ctxC L.Γ_slices_Contains 27 L.slices_Contains_S
theorem L.Γ_batchbisect_Fails_1_v8_ok : SoundG Try.prog L.Γ_batchbisect_Fails_1_v8 := ctxC_ok L.Γ_slices_Contains_ok L.slices_Contains_ok
def L.Δ_batchbisect_Fails_1_v8 : CtxO := L.Δ_slices_Contains
theorem L.Δ_batchbisect_Fails_1_v8_ok : SoundGO Try.prog L.Δ_batchbisect_Fails_1_v8 := L.Δ_slices_Contains_ok
def L.batchbisect_Fails_1_v8_B (k : Int) (c : (List Int)) (K : Bool → Prop) : Prop :=
  L.slices_Contains c k (fun r => K r)
structure L.batchbisect_Fails_1_v8 (k : Int) (c : (List Int)) (K : Bool → Prop) : Prop where
  out : L.batchbisect_Fails_1_v8_B k c K
def L.batchbisect_Fails_1_v8_ss : List Sh := [.int .i64, .rc [.ro (.int .i64)] 0]
def L.batchbisect_Fails_1_v8_G (vs : List V) (K : V → List Ob → Prop) : Prop := L.batchbisect_Fails_1_v8 (gI (vs.getD 0 .any)) (gR (.int .i64) ((gC (vs.getD 1 .any)).getD 0 .any)) (fun r0 => K (.x (.bool r0)) [])
def L.batchbisect_Fails_1_v8_S : SemF := fun args K => argF L.batchbisect_Fails_1_v8_ss args fun a => L.batchbisect_Fails_1_v8_G a K
theorem L.batchbisect_Fails_1_v8_eq (k : Int) (c : (List Int)) (K : V → List Ob → Prop) : run Try.prog L.Γ_batchbisect_Fails_1_v8 L.Δ_batchbisect_Fails_1_v8 .leaf .any Try.f26 [.x (.int .i64 k), .rc [.ro (.int .i64) c] 0] K = L.batchbisect_Fails_1_v8_B k c (fun r0 => K (.x (.bool r0)) []) := by
  kernel_rfl
theorem L.batchbisect_Fails_1_v8_imp (vs : List V) (K : V → List Ob → Prop) (h : L.batchbisect_Fails_1_v8_G vs K) : run Try.prog L.Γ_batchbisect_Fails_1_v8 L.Δ_batchbisect_Fails_1_v8 .leaf .any Try.f26 (mkL L.batchbisect_Fails_1_v8_ss 0 vs) K :=
  Eq.mpr (Eq.trans (b := run Try.prog L.Γ_batchbisect_Fails_1_v8 L.Δ_batchbisect_Fails_1_v8 .leaf .any Try.f26 [.x (.int .i64 (gI (vs.getD 0 .any))), .rc [.ro (.int .i64) (gR (.int .i64) ((gC (vs.getD 1 .any)).getD 0 .any))] 0] K) (by kernel_rfl) (L.batchbisect_Fails_1_v8_eq (gI (vs.getD 0 .any)) (gR (.int .i64) ((gC (vs.getD 1 .any)).getD 0 .any)) K)) (L.batchbisect_Fails_1_v8.out h)
theorem L.batchbisect_Fails_1_v8_ok : SoundFn Try.prog 26 L.batchbisect_Fails_1_v8_S :=
  fn_ok (sem := run Try.prog L.Γ_batchbisect_Fails_1_v8 L.Δ_batchbisect_Fails_1_v8 .leaf .any Try.f26) (ss := L.batchbisect_Fails_1_v8_ss) (G := L.batchbisect_Fails_1_v8_G) (run_ok L.Γ_batchbisect_Fails_1_v8_ok L.Δ_batchbisect_Fails_1_v8_ok Try.func26 (ann := .leaf) (annOk_leaf _)) L.batchbisect_Fails_1_v8_imp
/-- changeforge/batchbisect.Run$1$1 -/
def L.Γ_batchbisect_Run_1_1_v7 : Ctx := ctxA L.Γ_batchbisect_Fails_1_v8 26 L.batchbisect_Fails_1_v8_ss L.batchbisect_Fails_1_v8_G
theorem L.Γ_batchbisect_Run_1_1_v7_ok : SoundG Try.prog L.Γ_batchbisect_Run_1_1_v7 := ctxA_ok L.Γ_batchbisect_Fails_1_v8_ok L.batchbisect_Fails_1_v8_ok
def L.Δ_batchbisect_Run_1_1_v7 : CtxO := L.Δ_batchbisect_Fails_1_v8
theorem L.Δ_batchbisect_Run_1_1_v7_ok : SoundGO Try.prog L.Δ_batchbisect_Run_1_1_v7 := L.Δ_batchbisect_Fails_1_v8_ok
def L.batchbisect_Run_1_1_v7_B (k : Int) (c : (List Int)) (K : Bool → Prop) : Prop :=
  L.batchbisect_Fails_1_v8 k c (fun r => K (!r))
structure L.batchbisect_Run_1_1_v7 (k : Int) (c : (List Int)) (K : Bool → Prop) : Prop where
  out : L.batchbisect_Run_1_1_v7_B k c K
def L.batchbisect_Run_1_1_v7_ss : List Sh := [.int .i64, .rc [.fn 26 [] [.rc [.ro (.int .i64)] 0]] 0]
def L.batchbisect_Run_1_1_v7_G (vs : List V) (K : V → List Ob → Prop) : Prop := L.batchbisect_Run_1_1_v7 (gI (vs.getD 0 .any)) (gR (.int .i64) ((gC ((gFc ((gC (vs.getD 1 .any)).getD 0 .any)).getD 0 .any)).getD 0 .any)) (fun r0 => K (.x (.bool r0)) [])
def L.batchbisect_Run_1_1_v7_S : SemF := fun args K => argF L.batchbisect_Run_1_1_v7_ss args fun a => L.batchbisect_Run_1_1_v7_G a K
theorem L.batchbisect_Run_1_1_v7_eq (k : Int) (c : (List Int)) (K : V → List Ob → Prop) : run Try.prog L.Γ_batchbisect_Run_1_1_v7 L.Δ_batchbisect_Run_1_1_v7 .leaf .any Try.f35 [.x (.int .i64 k), .rc [.fn (.func 26) [] [.rc [.ro (.int .i64) c] 0]] 0] K = L.batchbisect_Run_1_1_v7_B k c (fun r0 => K (.x (.bool r0)) []) := by
  kernel_rfl
theorem L.batchbisect_Run_1_1_v7_imp (vs : List V) (K : V → List Ob → Prop) (h : L.batchbisect_Run_1_1_v7_G vs K) : run Try.prog L.Γ_batchbisect_Run_1_1_v7 L.Δ_batchbisect_Run_1_1_v7 .leaf .any Try.f35 (mkL L.batchbisect_Run_1_1_v7_ss 0 vs) K :=
  Eq.mpr (Eq.trans (b := run Try.prog L.Γ_batchbisect_Run_1_1_v7 L.Δ_batchbisect_Run_1_1_v7 .leaf .any Try.f35 [.x (.int .i64 (gI (vs.getD 0 .any))), .rc [.fn (.func 26) [] [.rc [.ro (.int .i64) (gR (.int .i64) ((gC ((gFc ((gC (vs.getD 1 .any)).getD 0 .any)).getD 0 .any)).getD 0 .any))] 0]] 0] K) (by kernel_rfl) (L.batchbisect_Run_1_1_v7_eq (gI (vs.getD 0 .any)) (gR (.int .i64) ((gC ((gFc ((gC (vs.getD 1 .any)).getD 0 .any)).getD 0 .any)).getD 0 .any)) K)) (L.batchbisect_Run_1_1_v7.out h)
theorem L.batchbisect_Run_1_1_v7_ok : SoundFn Try.prog 35 L.batchbisect_Run_1_1_v7_S :=
  fn_ok (sem := run Try.prog L.Γ_batchbisect_Run_1_1_v7 L.Δ_batchbisect_Run_1_1_v7 .leaf .any Try.f35) (ss := L.batchbisect_Run_1_1_v7_ss) (G := L.batchbisect_Run_1_1_v7_G) (run_ok L.Γ_batchbisect_Run_1_1_v7_ok L.Δ_batchbisect_Run_1_1_v7_ok Try.func35 (ann := .leaf) (annOk_leaf _)) L.batchbisect_Run_1_1_v7_imp
/-- slices.IndexFunc[[]int,int] -/
def L.Γ_slices_IndexFunc_v6 : Ctx := ctxA L.Γ_batchbisect_Run_1_1_v7 35 L.batchbisect_Run_1_1_v7_ss L.batchbisect_Run_1_1_v7_G
theorem L.Γ_slices_IndexFunc_v6_ok : SoundG Try.prog L.Γ_slices_IndexFunc_v6 := ctxA_ok L.Γ_batchbisect_Run_1_1_v7_ok L.batchbisect_Run_1_1_v7_ok
def L.Δ_slices_IndexFunc_v6 : CtxO := L.Δ_batchbisect_Run_1_1_v7
theorem L.Δ_slices_IndexFunc_v6_ok : SoundGO Try.prog L.Δ_slices_IndexFunc_v6 := L.Δ_batchbisect_Run_1_1_v7_ok
def L.slices_IndexFunc_v6_L1_b (s1 : (List Int)) (f1 : (List Int)) (v7 : Int) (v8 : Int) (self : Int → Prop) (Kx0 : Prop) (Kr : Int → Prop) : Prop :=
  (bif (decide (v8 < v7)) then (inB v8 s1.length) ∧ L.batchbisect_Run_1_1_v7 (s1.getD v8.toNat 0) f1 (fun r => (bif r then Kr v8 else self (i64 (v8 + 1)))) else Kx0)
def L.slices_IndexFunc_v6_L1_R (s1 : (List Int)) (f1 : (List Int)) (v7 : Int) : Nat → Int → (Prop) → (Int → Prop) → Prop
  | 0, _, _, _ => False
  | fu + 1, v8, Kx0, Kr => L.slices_IndexFunc_v6_L1_b s1 f1 v7 v8 (fun v8 => L.slices_IndexFunc_v6_L1_R s1 f1 v7 fu v8 Kx0 Kr) Kx0 Kr
structure L.slices_IndexFunc_v6_L1 (s1 : (List Int)) (f1 : (List Int)) (v7 : Int) (v8 : Int) (Kx0 : Prop) (Kr : Int → Prop) : Prop where
  out : ∃ fu, L.slices_IndexFunc_v6_L1_R s1 f1 v7 fu v8 Kx0 Kr
def L.slices_IndexFunc_v6_L1_d : LoopD := { keep := [0, 1, 7, 8], vecs := [], out := [], rets := [4] }
def L.slices_IndexFunc_v6_L1_ss : List Sh := [.ro (.int .i64), .fn 35 [] [.rc [.fn 26 [] [.rc [.ro (.int .i64)] 0]] 0], .int .i64, .int .i64]
def L.slices_IndexFunc_v6_L1_os : List OSh := []
def L.slices_IndexFunc_v6_L1_G (vs : List V) (st : List Ob) (K : Ex → St) : Prop := L.slices_IndexFunc_v6_L1 (gR (.int .i64) (vs.getD 0 .any)) (gR (.int .i64) ((gC ((gFc ((gC ((gFc (vs.getD 1 .any)).getD 0 .any)).getD 0 .any)).getD 0 .any)).getD 0 .any)) (gI (vs.getD 2 .any)) (gI (vs.getD 3 .any)) (K (.exit 0) (setVs [] 0 (bld [] [] 0 19)) []) (fun r0 => K .ret (bld [4] [.x (.int .i64 r0)] 0 19) [])
def L.slices_IndexFunc_v6_L1_F (vs : List V) (st : List Ob) (K : Ex → St) : Prop := fitF L.slices_IndexFunc_v6_L1_ss L.slices_IndexFunc_v6_L1_os vs st (L.slices_IndexFunc_v6_L1_G vs st K)
theorem L.slices_IndexFunc_v6_L1_eq (s1 : (List Int)) (f1 : (List Int)) (v7 : Int) (K : Ex → St) : ∀ (fu : Nat) (v8 : Int), L.slices_IndexFunc_v6_L1_R s1 f1 v7 fu v8 (K (.exit 0) (setVs [] 0 (bld [] [] 0 19)) []) (fun r0 => K .ret (bld [4] [.x (.int .i64 r0)] 0 19) []) = iterL (stepL (exec Try.prog (CC Try.prog L.Γ_slices_IndexFunc_v6 L.Δ_slices_IndexFunc_v6) (drawD Try.prog L.Γ_slices_IndexFunc_v6) .leaf (sub [true, false, true, false, false] (codeOf Try.f41))) 0 L.slices_IndexFunc_v6_L1_d K) fu (setVs L.slices_IndexFunc_v6_L1_d.vecs 0 (bld L.slices_IndexFunc_v6_L1_d.keep [.ro (.int .i64) s1, .fn (.func 35) [] [.rc [.fn (.func 26) [] [.rc [.ro (.int .i64) f1] 0]] 0], .x (.int .i64 v7), .x (.int .i64 v8)] 0 19)) [] := by
  intro fu
  induction fu with
  | zero => intros; rfl
  | succ fu ih =>
    intro v8
    have e : (fun v8 => L.slices_IndexFunc_v6_L1_R s1 f1 v7 fu v8 (K (.exit 0) (setVs [] 0 (bld [] [] 0 19)) []) (fun r0 => K .ret (bld [4] [.x (.int .i64 r0)] 0 19) [])) = fun v8 => iterL (stepL (exec Try.prog (CC Try.prog L.Γ_slices_IndexFunc_v6 L.Δ_slices_IndexFunc_v6) (drawD Try.prog L.Γ_slices_IndexFunc_v6) .leaf (sub [true, false, true, false, false] (codeOf Try.f41))) 0 L.slices_IndexFunc_v6_L1_d K) fu (setVs L.slices_IndexFunc_v6_L1_d.vecs 0 (bld L.slices_IndexFunc_v6_L1_d.keep [.ro (.int .i64) s1, .fn (.func 35) [] [.rc [.fn (.func 26) [] [.rc [.ro (.int .i64) f1] 0]] 0], .x (.int .i64 v7), .x (.int .i64 v8)] 0 19)) [] := by
      funext v8; exact ih v8
    show L.slices_IndexFunc_v6_L1_b s1 f1 v7 v8 (fun v8 => L.slices_IndexFunc_v6_L1_R s1 f1 v7 fu v8 (K (.exit 0) (setVs [] 0 (bld [] [] 0 19)) []) (fun r0 => K .ret (bld [4] [.x (.int .i64 r0)] 0 19) [])) (K (.exit 0) (setVs [] 0 (bld [] [] 0 19)) []) (fun r0 => K .ret (bld [4] [.x (.int .i64 r0)] 0 19) []) = _
    rw [e]
    kernel_rfl
theorem L.slices_IndexFunc_v6_L1_imp (vs : List V) (st : List Ob) (K : Ex → St) (h : L.slices_IndexFunc_v6_L1_G vs st K) : ∃ fu, iterL (stepL (exec Try.prog (CC Try.prog L.Γ_slices_IndexFunc_v6 L.Δ_slices_IndexFunc_v6) (drawD Try.prog L.Γ_slices_IndexFunc_v6) .leaf (sub [true, false, true, false, false] (codeOf Try.f41))) 0 L.slices_IndexFunc_v6_L1_d K) fu (setVs L.slices_IndexFunc_v6_L1_d.vecs 0 (bld L.slices_IndexFunc_v6_L1_d.keep (mkL L.slices_IndexFunc_v6_L1_ss 0 vs) 0 19)) (mkOs L.slices_IndexFunc_v6_L1_os 0 st) :=
  exMap (fun fu h => Eq.mp (Eq.trans (L.slices_IndexFunc_v6_L1_eq (gR (.int .i64) (vs.getD 0 .any)) (gR (.int .i64) ((gC ((gFc ((gC ((gFc (vs.getD 1 .any)).getD 0 .any)).getD 0 .any)).getD 0 .any)).getD 0 .any)) (gI (vs.getD 2 .any)) K fu (gI (vs.getD 3 .any))) (by kernel_rfl)) h) (L.slices_IndexFunc_v6_L1.out h)
theorem L.slices_IndexFunc_v6_L1_ok : AnnOk Try.prog (CC Try.prog L.Γ_slices_IndexFunc_v6 L.Δ_slices_IndexFunc_v6) (drawD Try.prog L.Γ_slices_IndexFunc_v6) 0 (.lift L.slices_IndexFunc_v6_L1_d 19 L.slices_IndexFunc_v6_L1_F) (.loop (sub [true, false, true, false, false] (codeOf Try.f41))) :=
  lift_ok (an := .leaf) (ss := L.slices_IndexFunc_v6_L1_ss) (os := L.slices_IndexFunc_v6_L1_os) (G := L.slices_IndexFunc_v6_L1_G) (L0 := 0) rfl (annOk_leaf _) rfl L.slices_IndexFunc_v6_L1_imp
def L.slices_IndexFunc_v6_B (s : (List Int)) (f : (List Int)) (K : Int → Prop) : Prop :=
  L.slices_IndexFunc_v6_L1 s f (s.length : Int) 0 (K (-1)) (fun r => K r)
structure L.slices_IndexFunc_v6 (s : (List Int)) (f : (List Int)) (K : Int → Prop) : Prop where
  out : L.slices_IndexFunc_v6_B s f K
def L.slices_IndexFunc_v6_ss : List Sh := [.ro (.int .i64), .fn 35 [] [.rc [.fn 26 [] [.rc [.ro (.int .i64)] 0]] 0]]
def L.slices_IndexFunc_v6_G (vs : List V) (K : V → List Ob → Prop) : Prop := L.slices_IndexFunc_v6 (gR (.int .i64) (vs.getD 0 .any)) (gR (.int .i64) ((gC ((gFc ((gC ((gFc (vs.getD 1 .any)).getD 0 .any)).getD 0 .any)).getD 0 .any)).getD 0 .any)) (fun r0 => K (.x (.int .i64 r0)) [])
def L.slices_IndexFunc_v6_S : SemF := fun args K => argF L.slices_IndexFunc_v6_ss args fun a => L.slices_IndexFunc_v6_G a K
theorem L.slices_IndexFunc_v6_eq (s : (List Int)) (f : (List Int)) (K : V → List Ob → Prop) : run Try.prog L.Γ_slices_IndexFunc_v6 L.Δ_slices_IndexFunc_v6 (.node .leaf (.node (.node .leaf (.lift L.slices_IndexFunc_v6_L1_d 19 L.slices_IndexFunc_v6_L1_F)) .leaf)) .any Try.f41 [.ro (.int .i64) s, .fn (.func 35) [] [.rc [.fn (.func 26) [] [.rc [.ro (.int .i64) f] 0]] 0]] K = L.slices_IndexFunc_v6_B s f (fun r0 => K (.x (.int .i64 r0)) []) := by
  kernel_rfl
theorem L.slices_IndexFunc_v6_imp (vs : List V) (K : V → List Ob → Prop) (h : L.slices_IndexFunc_v6_G vs K) : run Try.prog L.Γ_slices_IndexFunc_v6 L.Δ_slices_IndexFunc_v6 (.node .leaf (.node (.node .leaf (.lift L.slices_IndexFunc_v6_L1_d 19 L.slices_IndexFunc_v6_L1_F)) .leaf)) .any Try.f41 (mkL L.slices_IndexFunc_v6_ss 0 vs) K :=
  Eq.mpr (Eq.trans (b := run Try.prog L.Γ_slices_IndexFunc_v6 L.Δ_slices_IndexFunc_v6 (.node .leaf (.node (.node .leaf (.lift L.slices_IndexFunc_v6_L1_d 19 L.slices_IndexFunc_v6_L1_F)) .leaf)) .any Try.f41 [.ro (.int .i64) (gR (.int .i64) (vs.getD 0 .any)), .fn (.func 35) [] [.rc [.fn (.func 26) [] [.rc [.ro (.int .i64) (gR (.int .i64) ((gC ((gFc ((gC ((gFc (vs.getD 1 .any)).getD 0 .any)).getD 0 .any)).getD 0 .any)).getD 0 .any))] 0]] 0]] K) (by kernel_rfl) (L.slices_IndexFunc_v6_eq (gR (.int .i64) (vs.getD 0 .any)) (gR (.int .i64) ((gC ((gFc ((gC ((gFc (vs.getD 1 .any)).getD 0 .any)).getD 0 .any)).getD 0 .any)).getD 0 .any)) K)) (L.slices_IndexFunc_v6.out h)
theorem L.slices_IndexFunc_v6_ok : SoundFn Try.prog 41 L.slices_IndexFunc_v6_S :=
  fn_ok (sem := run Try.prog L.Γ_slices_IndexFunc_v6 L.Δ_slices_IndexFunc_v6 (.node .leaf (.node (.node .leaf (.lift L.slices_IndexFunc_v6_L1_d 19 L.slices_IndexFunc_v6_L1_F)) .leaf)) .any Try.f41) (ss := L.slices_IndexFunc_v6_ss) (G := L.slices_IndexFunc_v6_G) (run_ok L.Γ_slices_IndexFunc_v6_ok L.Δ_slices_IndexFunc_v6_ok Try.func41 (ann := (.node .leaf (.node (.node .leaf (.lift L.slices_IndexFunc_v6_L1_d 19 L.slices_IndexFunc_v6_L1_F)) .leaf))) ⟨(annOk_leaf _), ⟨⟨(annOk_leaf _), L.slices_IndexFunc_v6_L1_ok⟩, (annOk_leaf _)⟩⟩) L.slices_IndexFunc_v6_imp
/-- slices.ContainsFunc[[]int,int] -/
def L.Γ_slices_ContainsFunc_v5 : Ctx := ctxA L.Γ_slices_IndexFunc_v6 41 L.slices_IndexFunc_v6_ss L.slices_IndexFunc_v6_G
theorem L.Γ_slices_ContainsFunc_v5_ok : SoundG Try.prog L.Γ_slices_ContainsFunc_v5 := ctxA_ok L.Γ_slices_IndexFunc_v6_ok L.slices_IndexFunc_v6_ok
def L.Δ_slices_ContainsFunc_v5 : CtxO := L.Δ_slices_IndexFunc_v6
theorem L.Δ_slices_ContainsFunc_v5_ok : SoundGO Try.prog L.Δ_slices_ContainsFunc_v5 := L.Δ_slices_IndexFunc_v6_ok
def L.slices_ContainsFunc_v5_B (s : (List Int)) (f : (List Int)) (K : Bool → Prop) : Prop :=
  L.slices_IndexFunc_v6 s f (fun r => K (decide (r ≥ 0)))
structure L.slices_ContainsFunc_v5 (s : (List Int)) (f : (List Int)) (K : Bool → Prop) : Prop where
  out : L.slices_ContainsFunc_v5_B s f K
def L.slices_ContainsFunc_v5_ss : List Sh := [.ro (.int .i64), .fn 35 [] [.rc [.fn 26 [] [.rc [.ro (.int .i64)] 0]] 0]]
def L.slices_ContainsFunc_v5_G (vs : List V) (K : V → List Ob → Prop) : Prop := L.slices_ContainsFunc_v5 (gR (.int .i64) (vs.getD 0 .any)) (gR (.int .i64) ((gC ((gFc ((gC ((gFc (vs.getD 1 .any)).getD 0 .any)).getD 0 .any)).getD 0 .any)).getD 0 .any)) (fun r0 => K (.x (.bool r0)) [])
def L.slices_ContainsFunc_v5_S : SemF := fun args K => argF L.slices_ContainsFunc_v5_ss args fun a => L.slices_ContainsFunc_v5_G a K
theorem L.slices_ContainsFunc_v5_eq (s : (List Int)) (f : (List Int)) (K : V → List Ob → Prop) : run Try.prog L.Γ_slices_ContainsFunc_v5 L.Δ_slices_ContainsFunc_v5 .leaf .any Try.f34 [.ro (.int .i64) s, .fn (.func 35) [] [.rc [.fn (.func 26) [] [.rc [.ro (.int .i64) f] 0]] 0]] K = L.slices_ContainsFunc_v5_B s f (fun r0 => K (.x (.bool r0)) []) := by
  kernel_rfl
theorem L.slices_ContainsFunc_v5_imp (vs : List V) (K : V → List Ob → Prop) (h : L.slices_ContainsFunc_v5_G vs K) : run Try.prog L.Γ_slices_ContainsFunc_v5 L.Δ_slices_ContainsFunc_v5 .leaf .any Try.f34 (mkL L.slices_ContainsFunc_v5_ss 0 vs) K :=
  Eq.mpr (Eq.trans (b := run Try.prog L.Γ_slices_ContainsFunc_v5 L.Δ_slices_ContainsFunc_v5 .leaf .any Try.f34 [.ro (.int .i64) (gR (.int .i64) (vs.getD 0 .any)), .fn (.func 35) [] [.rc [.fn (.func 26) [] [.rc [.ro (.int .i64) (gR (.int .i64) ((gC ((gFc ((gC ((gFc (vs.getD 1 .any)).getD 0 .any)).getD 0 .any)).getD 0 .any)).getD 0 .any))] 0]] 0]] K) (by kernel_rfl) (L.slices_ContainsFunc_v5_eq (gR (.int .i64) (vs.getD 0 .any)) (gR (.int .i64) ((gC ((gFc ((gC ((gFc (vs.getD 1 .any)).getD 0 .any)).getD 0 .any)).getD 0 .any)).getD 0 .any)) K)) (L.slices_ContainsFunc_v5.out h)
theorem L.slices_ContainsFunc_v5_ok : SoundFn Try.prog 34 L.slices_ContainsFunc_v5_S :=
  fn_ok (sem := run Try.prog L.Γ_slices_ContainsFunc_v5 L.Δ_slices_ContainsFunc_v5 .leaf .any Try.f34) (ss := L.slices_ContainsFunc_v5_ss) (G := L.slices_ContainsFunc_v5_G) (run_ok L.Γ_slices_ContainsFunc_v5_ok L.Δ_slices_ContainsFunc_v5_ok Try.func34 (ann := .leaf) (annOk_leaf _)) L.slices_ContainsFunc_v5_imp
/-- changeforge/batchbisect.Run$1 -/
def L.Γ_batchbisect_Run_1_v4 : Ctx := ctxA L.Γ_slices_ContainsFunc_v5 34 L.slices_ContainsFunc_v5_ss L.slices_ContainsFunc_v5_G
theorem L.Γ_batchbisect_Run_1_v4_ok : SoundG Try.prog L.Γ_batchbisect_Run_1_v4 := ctxA_ok L.Γ_slices_ContainsFunc_v5_ok L.slices_ContainsFunc_v5_ok
def L.Δ_batchbisect_Run_1_v4 : CtxO := L.Δ_slices_ContainsFunc_v5
theorem L.Δ_batchbisect_Run_1_v4_ok : SoundGO Try.prog L.Δ_batchbisect_Run_1_v4 := L.Δ_slices_ContainsFunc_v5_ok
def L.batchbisect_Run_1_v4_B (set : (List Int)) (c : (List Int)) (K : Bool → Prop) : Prop :=
  L.slices_ContainsFunc_v5 set c (fun r => K (!r))
structure L.batchbisect_Run_1_v4 (set : (List Int)) (c : (List Int)) (K : Bool → Prop) : Prop where
  out : L.batchbisect_Run_1_v4_B set c K
def L.batchbisect_Run_1_v4_ss : List Sh := [.ro (.int .i64), .rc [.fn 26 [] [.rc [.ro (.int .i64)] 0]] 0]
def L.batchbisect_Run_1_v4_G (vs : List V) (K : V → List Ob → Prop) : Prop := L.batchbisect_Run_1_v4 (gR (.int .i64) (vs.getD 0 .any)) (gR (.int .i64) ((gC ((gFc ((gC (vs.getD 1 .any)).getD 0 .any)).getD 0 .any)).getD 0 .any)) (fun r0 => K (.x (.bool r0)) [])
def L.batchbisect_Run_1_v4_S : SemF := fun args K => argF L.batchbisect_Run_1_v4_ss args fun a => L.batchbisect_Run_1_v4_G a K
theorem L.batchbisect_Run_1_v4_eq (set : (List Int)) (c : (List Int)) (K : V → List Ob → Prop) : run Try.prog L.Γ_batchbisect_Run_1_v4 L.Δ_batchbisect_Run_1_v4 .leaf .any Try.f33 [.ro (.int .i64) set, .rc [.fn (.func 26) [] [.rc [.ro (.int .i64) c] 0]] 0] K = L.batchbisect_Run_1_v4_B set c (fun r0 => K (.x (.bool r0)) []) := by
  kernel_rfl
theorem L.batchbisect_Run_1_v4_imp (vs : List V) (K : V → List Ob → Prop) (h : L.batchbisect_Run_1_v4_G vs K) : run Try.prog L.Γ_batchbisect_Run_1_v4 L.Δ_batchbisect_Run_1_v4 .leaf .any Try.f33 (mkL L.batchbisect_Run_1_v4_ss 0 vs) K :=
  Eq.mpr (Eq.trans (b := run Try.prog L.Γ_batchbisect_Run_1_v4 L.Δ_batchbisect_Run_1_v4 .leaf .any Try.f33 [.ro (.int .i64) (gR (.int .i64) (vs.getD 0 .any)), .rc [.fn (.func 26) [] [.rc [.ro (.int .i64) (gR (.int .i64) ((gC ((gFc ((gC (vs.getD 1 .any)).getD 0 .any)).getD 0 .any)).getD 0 .any))] 0]] 0] K) (by kernel_rfl) (L.batchbisect_Run_1_v4_eq (gR (.int .i64) (vs.getD 0 .any)) (gR (.int .i64) ((gC ((gFc ((gC (vs.getD 1 .any)).getD 0 .any)).getD 0 .any)).getD 0 .any)) K)) (L.batchbisect_Run_1_v4.out h)
theorem L.batchbisect_Run_1_v4_ok : SoundFn Try.prog 33 L.batchbisect_Run_1_v4_S :=
  fn_ok (sem := run Try.prog L.Γ_batchbisect_Run_1_v4 L.Δ_batchbisect_Run_1_v4 .leaf .any Try.f33) (ss := L.batchbisect_Run_1_v4_ss) (G := L.batchbisect_Run_1_v4_G) (run_ok L.Γ_batchbisect_Run_1_v4_ok L.Δ_batchbisect_Run_1_v4_ok Try.func33 (ann := .leaf) (annOk_leaf _)) L.batchbisect_Run_1_v4_imp
/-- slices.IndexFunc[[][]int,[]int] -/
def L.Γ_slices_IndexFunc_v3 : Ctx := ctxA L.Γ_batchbisect_Run_1_v4 33 L.batchbisect_Run_1_v4_ss L.batchbisect_Run_1_v4_G
theorem L.Γ_slices_IndexFunc_v3_ok : SoundG Try.prog L.Γ_slices_IndexFunc_v3 := ctxA_ok L.Γ_batchbisect_Run_1_v4_ok L.batchbisect_Run_1_v4_ok
def L.Δ_slices_IndexFunc_v3 : CtxO := L.Δ_batchbisect_Run_1_v4
theorem L.Δ_slices_IndexFunc_v3_ok : SoundGO Try.prog L.Δ_slices_IndexFunc_v3 := L.Δ_batchbisect_Run_1_v4_ok
def L.slices_IndexFunc_v3_L1_b (s1 : (List (List Int))) (f1 : (List Int)) (v7 : Int) (v8 : Int) (self : Int → Prop) (Kx0 : Prop) (Kr : Int → Prop) : Prop :=
  (bif (decide (v8 < v7)) then (inB v8 s1.length) ∧ L.batchbisect_Run_1_v4 (s1.getD v8.toNat []) f1 (fun r => (bif r then Kr v8 else self (i64 (v8 + 1)))) else Kx0)
def L.slices_IndexFunc_v3_L1_R (s1 : (List (List Int))) (f1 : (List Int)) (v7 : Int) : Nat → Int → (Prop) → (Int → Prop) → Prop
  | 0, _, _, _ => False
  | fu + 1, v8, Kx0, Kr => L.slices_IndexFunc_v3_L1_b s1 f1 v7 v8 (fun v8 => L.slices_IndexFunc_v3_L1_R s1 f1 v7 fu v8 Kx0 Kr) Kx0 Kr
structure L.slices_IndexFunc_v3_L1 (s1 : (List (List Int))) (f1 : (List Int)) (v7 : Int) (v8 : Int) (Kx0 : Prop) (Kr : Int → Prop) : Prop where
  out : ∃ fu, L.slices_IndexFunc_v3_L1_R s1 f1 v7 fu v8 Kx0 Kr
def L.slices_IndexFunc_v3_L1_d : LoopD := { keep := [0, 1, 7, 8], vecs := [], out := [], rets := [4] }
def L.slices_IndexFunc_v3_L1_ss : List Sh := [.ro (.slice (.int .i64)), .fn 33 [] [.rc [.fn 26 [] [.rc [.ro (.int .i64)] 0]] 0], .int .i64, .int .i64]
def L.slices_IndexFunc_v3_L1_os : List OSh := []
def L.slices_IndexFunc_v3_L1_G (vs : List V) (st : List Ob) (K : Ex → St) : Prop := L.slices_IndexFunc_v3_L1 (gR (.slice (.int .i64)) (vs.getD 0 .any)) (gR (.int .i64) ((gC ((gFc ((gC ((gFc (vs.getD 1 .any)).getD 0 .any)).getD 0 .any)).getD 0 .any)).getD 0 .any)) (gI (vs.getD 2 .any)) (gI (vs.getD 3 .any)) (K (.exit 0) (setVs [] 0 (bld [] [] 0 19)) []) (fun r0 => K .ret (bld [4] [.x (.int .i64 r0)] 0 19) [])
def L.slices_IndexFunc_v3_L1_F (vs : List V) (st : List Ob) (K : Ex → St) : Prop := fitF L.slices_IndexFunc_v3_L1_ss L.slices_IndexFunc_v3_L1_os vs st (L.slices_IndexFunc_v3_L1_G vs st K)
theorem L.slices_IndexFunc_v3_L1_eq (s1 : (List (List Int))) (f1 : (List Int)) (v7 : Int) (K : Ex → St) : ∀ (fu : Nat) (v8 : Int), L.slices_IndexFunc_v3_L1_R s1 f1 v7 fu v8 (K (.exit 0) (setVs [] 0 (bld [] [] 0 19)) []) (fun r0 => K .ret (bld [4] [.x (.int .i64 r0)] 0 19) []) = iterL (stepL (exec Try.prog (CC Try.prog L.Γ_slices_IndexFunc_v3 L.Δ_slices_IndexFunc_v3) (drawD Try.prog L.Γ_slices_IndexFunc_v3) .leaf (sub [true, false, true, false, false] (codeOf Try.f40))) 0 L.slices_IndexFunc_v3_L1_d K) fu (setVs L.slices_IndexFunc_v3_L1_d.vecs 0 (bld L.slices_IndexFunc_v3_L1_d.keep [.ro (.slice (.int .i64)) s1, .fn (.func 33) [] [.rc [.fn (.func 26) [] [.rc [.ro (.int .i64) f1] 0]] 0], .x (.int .i64 v7), .x (.int .i64 v8)] 0 19)) [] := by
  intro fu
  induction fu with
  | zero => intros; rfl
  | succ fu ih =>
    intro v8
    have e : (fun v8 => L.slices_IndexFunc_v3_L1_R s1 f1 v7 fu v8 (K (.exit 0) (setVs [] 0 (bld [] [] 0 19)) []) (fun r0 => K .ret (bld [4] [.x (.int .i64 r0)] 0 19) [])) = fun v8 => iterL (stepL (exec Try.prog (CC Try.prog L.Γ_slices_IndexFunc_v3 L.Δ_slices_IndexFunc_v3) (drawD Try.prog L.Γ_slices_IndexFunc_v3) .leaf (sub [true, false, true, false, false] (codeOf Try.f40))) 0 L.slices_IndexFunc_v3_L1_d K) fu (setVs L.slices_IndexFunc_v3_L1_d.vecs 0 (bld L.slices_IndexFunc_v3_L1_d.keep [.ro (.slice (.int .i64)) s1, .fn (.func 33) [] [.rc [.fn (.func 26) [] [.rc [.ro (.int .i64) f1] 0]] 0], .x (.int .i64 v7), .x (.int .i64 v8)] 0 19)) [] := by
      funext v8; exact ih v8
    show L.slices_IndexFunc_v3_L1_b s1 f1 v7 v8 (fun v8 => L.slices_IndexFunc_v3_L1_R s1 f1 v7 fu v8 (K (.exit 0) (setVs [] 0 (bld [] [] 0 19)) []) (fun r0 => K .ret (bld [4] [.x (.int .i64 r0)] 0 19) [])) (K (.exit 0) (setVs [] 0 (bld [] [] 0 19)) []) (fun r0 => K .ret (bld [4] [.x (.int .i64 r0)] 0 19) []) = _
    rw [e]
    kernel_rfl
theorem L.slices_IndexFunc_v3_L1_imp (vs : List V) (st : List Ob) (K : Ex → St) (h : L.slices_IndexFunc_v3_L1_G vs st K) : ∃ fu, iterL (stepL (exec Try.prog (CC Try.prog L.Γ_slices_IndexFunc_v3 L.Δ_slices_IndexFunc_v3) (drawD Try.prog L.Γ_slices_IndexFunc_v3) .leaf (sub [true, false, true, false, false] (codeOf Try.f40))) 0 L.slices_IndexFunc_v3_L1_d K) fu (setVs L.slices_IndexFunc_v3_L1_d.vecs 0 (bld L.slices_IndexFunc_v3_L1_d.keep (mkL L.slices_IndexFunc_v3_L1_ss 0 vs) 0 19)) (mkOs L.slices_IndexFunc_v3_L1_os 0 st) :=
  exMap (fun fu h => Eq.mp (Eq.trans (L.slices_IndexFunc_v3_L1_eq (gR (.slice (.int .i64)) (vs.getD 0 .any)) (gR (.int .i64) ((gC ((gFc ((gC ((gFc (vs.getD 1 .any)).getD 0 .any)).getD 0 .any)).getD 0 .any)).getD 0 .any)) (gI (vs.getD 2 .any)) K fu (gI (vs.getD 3 .any))) (by kernel_rfl)) h) (L.slices_IndexFunc_v3_L1.out h)
theorem L.slices_IndexFunc_v3_L1_ok : AnnOk Try.prog (CC Try.prog L.Γ_slices_IndexFunc_v3 L.Δ_slices_IndexFunc_v3) (drawD Try.prog L.Γ_slices_IndexFunc_v3) 0 (.lift L.slices_IndexFunc_v3_L1_d 19 L.slices_IndexFunc_v3_L1_F) (.loop (sub [true, false, true, false, false] (codeOf Try.f40))) :=
  lift_ok (an := .leaf) (ss := L.slices_IndexFunc_v3_L1_ss) (os := L.slices_IndexFunc_v3_L1_os) (G := L.slices_IndexFunc_v3_L1_G) (L0 := 0) rfl (annOk_leaf _) rfl L.slices_IndexFunc_v3_L1_imp
def L.slices_IndexFunc_v3_B (s : (List (List Int))) (f : (List Int)) (K : Int → Prop) : Prop :=
  L.slices_IndexFunc_v3_L1 s f (s.length : Int) 0 (K (-1)) (fun r => K r)
structure L.slices_IndexFunc_v3 (s : (List (List Int))) (f : (List Int)) (K : Int → Prop) : Prop where
  out : L.slices_IndexFunc_v3_B s f K
def L.slices_IndexFunc_v3_ss : List Sh := [.ro (.slice (.int .i64)), .fn 33 [] [.rc [.fn 26 [] [.rc [.ro (.int .i64)] 0]] 0]]
def L.slices_IndexFunc_v3_G (vs : List V) (K : V → List Ob → Prop) : Prop := L.slices_IndexFunc_v3 (gR (.slice (.int .i64)) (vs.getD 0 .any)) (gR (.int .i64) ((gC ((gFc ((gC ((gFc (vs.getD 1 .any)).getD 0 .any)).getD 0 .any)).getD 0 .any)).getD 0 .any)) (fun r0 => K (.x (.int .i64 r0)) [])
def L.slices_IndexFunc_v3_S : SemF := fun args K => argF L.slices_IndexFunc_v3_ss args fun a => L.slices_IndexFunc_v3_G a K
theorem L.slices_IndexFunc_v3_eq (s : (List (List Int))) (f : (List Int)) (K : V → List Ob → Prop) : run Try.prog L.Γ_slices_IndexFunc_v3 L.Δ_slices_IndexFunc_v3 (.node .leaf (.node (.node .leaf (.lift L.slices_IndexFunc_v3_L1_d 19 L.slices_IndexFunc_v3_L1_F)) .leaf)) .any Try.f40 [.ro (.slice (.int .i64)) s, .fn (.func 33) [] [.rc [.fn (.func 26) [] [.rc [.ro (.int .i64) f] 0]] 0]] K = L.slices_IndexFunc_v3_B s f (fun r0 => K (.x (.int .i64 r0)) []) := by
  kernel_rfl
theorem L.slices_IndexFunc_v3_imp (vs : List V) (K : V → List Ob → Prop) (h : L.slices_IndexFunc_v3_G vs K) : run Try.prog L.Γ_slices_IndexFunc_v3 L.Δ_slices_IndexFunc_v3 (.node .leaf (.node (.node .leaf (.lift L.slices_IndexFunc_v3_L1_d 19 L.slices_IndexFunc_v3_L1_F)) .leaf)) .any Try.f40 (mkL L.slices_IndexFunc_v3_ss 0 vs) K :=
  Eq.mpr (Eq.trans (b := run Try.prog L.Γ_slices_IndexFunc_v3 L.Δ_slices_IndexFunc_v3 (.node .leaf (.node (.node .leaf (.lift L.slices_IndexFunc_v3_L1_d 19 L.slices_IndexFunc_v3_L1_F)) .leaf)) .any Try.f40 [.ro (.slice (.int .i64)) (gR (.slice (.int .i64)) (vs.getD 0 .any)), .fn (.func 33) [] [.rc [.fn (.func 26) [] [.rc [.ro (.int .i64) (gR (.int .i64) ((gC ((gFc ((gC ((gFc (vs.getD 1 .any)).getD 0 .any)).getD 0 .any)).getD 0 .any)).getD 0 .any))] 0]] 0]] K) (by kernel_rfl) (L.slices_IndexFunc_v3_eq (gR (.slice (.int .i64)) (vs.getD 0 .any)) (gR (.int .i64) ((gC ((gFc ((gC ((gFc (vs.getD 1 .any)).getD 0 .any)).getD 0 .any)).getD 0 .any)).getD 0 .any)) K)) (L.slices_IndexFunc_v3.out h)
theorem L.slices_IndexFunc_v3_ok : SoundFn Try.prog 40 L.slices_IndexFunc_v3_S :=
  fn_ok (sem := run Try.prog L.Γ_slices_IndexFunc_v3 L.Δ_slices_IndexFunc_v3 (.node .leaf (.node (.node .leaf (.lift L.slices_IndexFunc_v3_L1_d 19 L.slices_IndexFunc_v3_L1_F)) .leaf)) .any Try.f40) (ss := L.slices_IndexFunc_v3_ss) (G := L.slices_IndexFunc_v3_G) (run_ok L.Γ_slices_IndexFunc_v3_ok L.Δ_slices_IndexFunc_v3_ok Try.func40 (ann := (.node .leaf (.node (.node .leaf (.lift L.slices_IndexFunc_v3_L1_d 19 L.slices_IndexFunc_v3_L1_F)) .leaf))) ⟨(annOk_leaf _), ⟨⟨(annOk_leaf _), L.slices_IndexFunc_v3_L1_ok⟩, (annOk_leaf _)⟩⟩) L.slices_IndexFunc_v3_imp
/-- slices.ContainsFunc[[][]int,[]int] -/
def L.Γ_slices_ContainsFunc_v2 : Ctx := ctxA L.Γ_slices_IndexFunc_v3 40 L.slices_IndexFunc_v3_ss L.slices_IndexFunc_v3_G
theorem L.Γ_slices_ContainsFunc_v2_ok : SoundG Try.prog L.Γ_slices_ContainsFunc_v2 := ctxA_ok L.Γ_slices_IndexFunc_v3_ok L.slices_IndexFunc_v3_ok
def L.Δ_slices_ContainsFunc_v2 : CtxO := L.Δ_slices_IndexFunc_v3
theorem L.Δ_slices_ContainsFunc_v2_ok : SoundGO Try.prog L.Δ_slices_ContainsFunc_v2 := L.Δ_slices_IndexFunc_v3_ok
def L.slices_ContainsFunc_v2_B (s : (List (List Int))) (f : (List Int)) (K : Bool → Prop) : Prop :=
  L.slices_IndexFunc_v3 s f (fun r => K (decide (r ≥ 0)))
structure L.slices_ContainsFunc_v2 (s : (List (List Int))) (f : (List Int)) (K : Bool → Prop) : Prop where
  out : L.slices_ContainsFunc_v2_B s f K
def L.slices_ContainsFunc_v2_ss : List Sh := [.ro (.slice (.int .i64)), .fn 33 [] [.rc [.fn 26 [] [.rc [.ro (.int .i64)] 0]] 0]]
def L.slices_ContainsFunc_v2_G (vs : List V) (K : V → List Ob → Prop) : Prop := L.slices_ContainsFunc_v2 (gR (.slice (.int .i64)) (vs.getD 0 .any)) (gR (.int .i64) ((gC ((gFc ((gC ((gFc (vs.getD 1 .any)).getD 0 .any)).getD 0 .any)).getD 0 .any)).getD 0 .any)) (fun r0 => K (.x (.bool r0)) [])
def L.slices_ContainsFunc_v2_S : SemF := fun args K => argF L.slices_ContainsFunc_v2_ss args fun a => L.slices_ContainsFunc_v2_G a K
theorem L.slices_ContainsFunc_v2_eq (s : (List (List Int))) (f : (List Int)) (K : V → List Ob → Prop) : run Try.prog L.Γ_slices_ContainsFunc_v2 L.Δ_slices_ContainsFunc_v2 .leaf .any Try.f32 [.ro (.slice (.int .i64)) s, .fn (.func 33) [] [.rc [.fn (.func 26) [] [.rc [.ro (.int .i64) f] 0]] 0]] K = L.slices_ContainsFunc_v2_B s f (fun r0 => K (.x (.bool r0)) []) := by
  kernel_rfl
theorem L.slices_ContainsFunc_v2_imp (vs : List V) (K : V → List Ob → Prop) (h : L.slices_ContainsFunc_v2_G vs K) : run Try.prog L.Γ_slices_ContainsFunc_v2 L.Δ_slices_ContainsFunc_v2 .leaf .any Try.f32 (mkL L.slices_ContainsFunc_v2_ss 0 vs) K :=
  Eq.mpr (Eq.trans (b := run Try.prog L.Γ_slices_ContainsFunc_v2 L.Δ_slices_ContainsFunc_v2 .leaf .any Try.f32 [.ro (.slice (.int .i64)) (gR (.slice (.int .i64)) (vs.getD 0 .any)), .fn (.func 33) [] [.rc [.fn (.func 26) [] [.rc [.ro (.int .i64) (gR (.int .i64) ((gC ((gFc ((gC ((gFc (vs.getD 1 .any)).getD 0 .any)).getD 0 .any)).getD 0 .any)).getD 0 .any))] 0]] 0]] K) (by kernel_rfl) (L.slices_ContainsFunc_v2_eq (gR (.slice (.int .i64)) (vs.getD 0 .any)) (gR (.int .i64) ((gC ((gFc ((gC ((gFc (vs.getD 1 .any)).getD 0 .any)).getD 0 .any)).getD 0 .any)).getD 0 .any)) K)) (L.slices_ContainsFunc_v2.out h)
theorem L.slices_ContainsFunc_v2_ok : SoundFn Try.prog 32 L.slices_ContainsFunc_v2_S :=
  fn_ok (sem := run Try.prog L.Γ_slices_ContainsFunc_v2 L.Δ_slices_ContainsFunc_v2 .leaf .any Try.f32) (ss := L.slices_ContainsFunc_v2_ss) (G := L.slices_ContainsFunc_v2_G) (run_ok L.Γ_slices_ContainsFunc_v2_ok L.Δ_slices_ContainsFunc_v2_ok Try.func32 (ann := .leaf) (annOk_leaf _)) L.slices_ContainsFunc_v2_imp
/-- changeforge/batchbisect.Run -/
def L.Γ_batchbisect_Run_v1 : Ctx := ctxA L.Γ_slices_ContainsFunc_v2 32 L.slices_ContainsFunc_v2_ss L.slices_ContainsFunc_v2_G
theorem L.Γ_batchbisect_Run_v1_ok : SoundG Try.prog L.Γ_batchbisect_Run_v1 := ctxA_ok L.Γ_slices_ContainsFunc_v2_ok L.slices_ContainsFunc_v2_ok
def L.Δ_batchbisect_Run_v1 : CtxO := L.Δ_slices_ContainsFunc_v2
theorem L.Δ_batchbisect_Run_v1_ok : SoundGO Try.prog L.Δ_batchbisect_Run_v1 := L.Δ_slices_ContainsFunc_v2_ok
def L.batchbisect_Run_v1_B (culprits : (List (List Int))) (in_ : (List Int)) (K : Bool → Prop) : Prop :=
  L.slices_ContainsFunc_v2 culprits in_ (fun r => K r)
structure L.batchbisect_Run_v1 (culprits : (List (List Int))) (in_ : (List Int)) (K : Bool → Prop) : Prop where
  out : L.batchbisect_Run_v1_B culprits in_ K
def L.batchbisect_Run_v1_ss : List Sh := [.ro (.slice (.int .i64)), .fn 26 [] [.rc [.ro (.int .i64)] 0]]
def L.batchbisect_Run_v1_G (vs : List V) (K : V → List Ob → Prop) : Prop := L.batchbisect_Run_v1 (gR (.slice (.int .i64)) (vs.getD 0 .any)) (gR (.int .i64) ((gC ((gFc (vs.getD 1 .any)).getD 0 .any)).getD 0 .any)) (fun r0 => K (.x (.bool r0)) [])
def L.batchbisect_Run_v1_S : SemF := fun args K => argF L.batchbisect_Run_v1_ss args fun a => L.batchbisect_Run_v1_G a K
theorem L.batchbisect_Run_v1_eq (culprits : (List (List Int))) (in_ : (List Int)) (K : V → List Ob → Prop) : run Try.prog L.Γ_batchbisect_Run_v1 L.Δ_batchbisect_Run_v1 .leaf .any Try.f25 [.ro (.slice (.int .i64)) culprits, .fn (.func 26) [] [.rc [.ro (.int .i64) in_] 0]] K = L.batchbisect_Run_v1_B culprits in_ (fun r0 => K (.x (.bool r0)) []) := by
  kernel_rfl
theorem L.batchbisect_Run_v1_imp (vs : List V) (K : V → List Ob → Prop) (h : L.batchbisect_Run_v1_G vs K) : run Try.prog L.Γ_batchbisect_Run_v1 L.Δ_batchbisect_Run_v1 .leaf .any Try.f25 (mkL L.batchbisect_Run_v1_ss 0 vs) K :=
  Eq.mpr (Eq.trans (b := run Try.prog L.Γ_batchbisect_Run_v1 L.Δ_batchbisect_Run_v1 .leaf .any Try.f25 [.ro (.slice (.int .i64)) (gR (.slice (.int .i64)) (vs.getD 0 .any)), .fn (.func 26) [] [.rc [.ro (.int .i64) (gR (.int .i64) ((gC ((gFc (vs.getD 1 .any)).getD 0 .any)).getD 0 .any))] 0]] K) (by kernel_rfl) (L.batchbisect_Run_v1_eq (gR (.slice (.int .i64)) (vs.getD 0 .any)) (gR (.int .i64) ((gC ((gFc (vs.getD 1 .any)).getD 0 .any)).getD 0 .any)) K)) (L.batchbisect_Run_v1.out h)
theorem L.batchbisect_Run_v1_ok : SoundFn Try.prog 25 L.batchbisect_Run_v1_S :=
  fn_ok (sem := run Try.prog L.Γ_batchbisect_Run_v1 L.Δ_batchbisect_Run_v1 .leaf .any Try.f25) (ss := L.batchbisect_Run_v1_ss) (G := L.batchbisect_Run_v1_G) (run_ok L.Γ_batchbisect_Run_v1_ok L.Δ_batchbisect_Run_v1_ok Try.func25 (ann := .leaf) (annOk_leaf _)) L.batchbisect_Run_v1_imp
/-- changeforge/batchbisect.Fails -/
def L.Γ_batchbisect_Fails : Ctx := ctxA L.Γ_batchbisect_Run_v1 25 L.batchbisect_Run_v1_ss L.batchbisect_Run_v1_G
theorem L.Γ_batchbisect_Fails_ok : SoundG Try.prog L.Γ_batchbisect_Fails := ctxA_ok L.Γ_batchbisect_Run_v1_ok L.batchbisect_Run_v1_ok
def L.Δ_batchbisect_Fails : CtxO := L.Δ_batchbisect_Run_v1
theorem L.Δ_batchbisect_Fails_ok : SoundGO Try.prog L.Δ_batchbisect_Fails := L.Δ_batchbisect_Run_v1_ok
def L.batchbisect_Fails_B (n : Int) (culprits : (List (List Int))) (set : (List Int)) (K : Bool → Int → Int → Prop) : Prop :=
  L.batchbisect_Validate n culprits (fun rCode rIndex => (bif (!((rCode == 0) && ((rIndex == 0) && true))) then K false rCode rIndex else L.batchbisect_list n set (fun r => (bif (r != 0) then K false r (-2) else L.batchbisect_Run_v1 culprits set (fun r1 => K r1 0 0)))))
structure L.batchbisect_Fails (n : Int) (culprits : (List (List Int))) (set : (List Int)) (K : Bool → Int → Int → Prop) : Prop where
  out : L.batchbisect_Fails_B n culprits set K
def L.batchbisect_Fails_ss : List Sh := [.int .i64, .ro (.slice (.int .i64)), .ro (.int .i64)]
def L.batchbisect_Fails_G (vs : List V) (K : V → List Ob → Prop) : Prop := L.batchbisect_Fails (gI (vs.getD 0 .any)) (gR (.slice (.int .i64)) (vs.getD 1 .any)) (gR (.int .i64) (vs.getD 2 .any)) (fun r0 r1 r2 => K (.tup [.x (.bool r0), .agg [.x (.int .i64 r1), .x (.int .i64 r2)]]) [])
def L.batchbisect_Fails_S : SemF := fun args K => argF L.batchbisect_Fails_ss args fun a => L.batchbisect_Fails_G a K
theorem L.batchbisect_Fails_eq (n : Int) (culprits : (List (List Int))) (set : (List Int)) (K : V → List Ob → Prop) : run Try.prog L.Γ_batchbisect_Fails L.Δ_batchbisect_Fails .leaf .any Try.f9 [.x (.int .i64 n), .ro (.slice (.int .i64)) culprits, .ro (.int .i64) set] K = L.batchbisect_Fails_B n culprits set (fun r0 r1 r2 => K (.tup [.x (.bool r0), .agg [.x (.int .i64 r1), .x (.int .i64 r2)]]) []) := by
  kernel_rfl
theorem L.batchbisect_Fails_imp (vs : List V) (K : V → List Ob → Prop) (h : L.batchbisect_Fails_G vs K) : run Try.prog L.Γ_batchbisect_Fails L.Δ_batchbisect_Fails .leaf .any Try.f9 (mkL L.batchbisect_Fails_ss 0 vs) K :=
  Eq.mpr (Eq.trans (b := run Try.prog L.Γ_batchbisect_Fails L.Δ_batchbisect_Fails .leaf .any Try.f9 [.x (.int .i64 (gI (vs.getD 0 .any))), .ro (.slice (.int .i64)) (gR (.slice (.int .i64)) (vs.getD 1 .any)), .ro (.int .i64) (gR (.int .i64) (vs.getD 2 .any))] K) (by kernel_rfl) (L.batchbisect_Fails_eq (gI (vs.getD 0 .any)) (gR (.slice (.int .i64)) (vs.getD 1 .any)) (gR (.int .i64) (vs.getD 2 .any)) K)) (L.batchbisect_Fails.out h)
theorem L.batchbisect_Fails_ok : SoundFn Try.prog 9 L.batchbisect_Fails_S :=
  fn_ok (sem := run Try.prog L.Γ_batchbisect_Fails L.Δ_batchbisect_Fails .leaf .any Try.f9) (ss := L.batchbisect_Fails_ss) (G := L.batchbisect_Fails_G) (run_ok L.Γ_batchbisect_Fails_ok L.Δ_batchbisect_Fails_ok Try.func9 (ann := .leaf) (annOk_leaf _)) L.batchbisect_Fails_imp
/-- changeforge/batchbisect.below$1 -/
def L.Γ_batchbisect_below_1_v16 : Ctx := ctxC L.Γ_batchbisect_Fails 9 L.batchbisect_Fails_S
theorem L.Γ_batchbisect_below_1_v16_ok : SoundG Try.prog L.Γ_batchbisect_below_1_v16 := ctxC_ok L.Γ_batchbisect_Fails_ok L.batchbisect_Fails_ok
def L.Δ_batchbisect_below_1_v16 : CtxO := L.Δ_batchbisect_Fails
theorem L.Δ_batchbisect_below_1_v16_ok : SoundGO Try.prog L.Δ_batchbisect_below_1_v16 := L.Δ_batchbisect_Fails_ok
def L.batchbisect_below_1_v16_B (k : Int) (c : Int) (c1 : (List Int)) (K : Bool → Prop) : Prop :=
  (bif (decide (k < c)) then K true else L.slices_Contains c1 k (fun r => K (bif false then true else r)))
structure L.batchbisect_below_1_v16 (k : Int) (c : Int) (c1 : (List Int)) (K : Bool → Prop) : Prop where
  out : L.batchbisect_below_1_v16_B k c c1 K
def L.batchbisect_below_1_v16_ss : List Sh := [.int .i64, .rc [.int .i64] 0, .rc [.ro (.int .i64)] 0]
def L.batchbisect_below_1_v16_G (vs : List V) (K : V → List Ob → Prop) : Prop := L.batchbisect_below_1_v16 (gI (vs.getD 0 .any)) (gI ((gC (vs.getD 1 .any)).getD 0 .any)) (gR (.int .i64) ((gC (vs.getD 2 .any)).getD 0 .any)) (fun r0 => K (.x (.bool r0)) [])
def L.batchbisect_below_1_v16_S : SemF := fun args K => argF L.batchbisect_below_1_v16_ss args fun a => L.batchbisect_below_1_v16_G a K
theorem L.batchbisect_below_1_v16_eq (k : Int) (c : Int) (c1 : (List Int)) (K : V → List Ob → Prop) : run Try.prog L.Γ_batchbisect_below_1_v16 L.Δ_batchbisect_below_1_v16 .leaf .any Try.f37 [.x (.int .i64 k), .rc [.x (.int .i64 c)] 0, .rc [.ro (.int .i64) c1] 0] K = L.batchbisect_below_1_v16_B k c c1 (fun r0 => K (.x (.bool r0)) []) := by
  kernel_rfl
theorem L.batchbisect_below_1_v16_imp (vs : List V) (K : V → List Ob → Prop) (h : L.batchbisect_below_1_v16_G vs K) : run Try.prog L.Γ_batchbisect_below_1_v16 L.Δ_batchbisect_below_1_v16 .leaf .any Try.f37 (mkL L.batchbisect_below_1_v16_ss 0 vs) K :=
  Eq.mpr (Eq.trans (b := run Try.prog L.Γ_batchbisect_below_1_v16 L.Δ_batchbisect_below_1_v16 .leaf .any Try.f37 [.x (.int .i64 (gI (vs.getD 0 .any))), .rc [.x (.int .i64 (gI ((gC (vs.getD 1 .any)).getD 0 .any)))] 0, .rc [.ro (.int .i64) (gR (.int .i64) ((gC (vs.getD 2 .any)).getD 0 .any))] 0] K) (by kernel_rfl) (L.batchbisect_below_1_v16_eq (gI (vs.getD 0 .any)) (gI ((gC (vs.getD 1 .any)).getD 0 .any)) (gR (.int .i64) ((gC (vs.getD 2 .any)).getD 0 .any)) K)) (L.batchbisect_below_1_v16.out h)
theorem L.batchbisect_below_1_v16_ok : SoundFn Try.prog 37 L.batchbisect_below_1_v16_S :=
  fn_ok (sem := run Try.prog L.Γ_batchbisect_below_1_v16 L.Δ_batchbisect_below_1_v16 .leaf .any Try.f37) (ss := L.batchbisect_below_1_v16_ss) (G := L.batchbisect_below_1_v16_G) (run_ok L.Γ_batchbisect_below_1_v16_ok L.Δ_batchbisect_below_1_v16_ok Try.func37 (ann := .leaf) (annOk_leaf _)) L.batchbisect_below_1_v16_imp
/-- changeforge/batchbisect.Run$1$1 -/
def L.Γ_batchbisect_Run_1_1_v15 : Ctx := ctxA L.Γ_batchbisect_below_1_v16 37 L.batchbisect_below_1_v16_ss L.batchbisect_below_1_v16_G
theorem L.Γ_batchbisect_Run_1_1_v15_ok : SoundG Try.prog L.Γ_batchbisect_Run_1_1_v15 := ctxA_ok L.Γ_batchbisect_below_1_v16_ok L.batchbisect_below_1_v16_ok
def L.Δ_batchbisect_Run_1_1_v15 : CtxO := L.Δ_batchbisect_below_1_v16
theorem L.Δ_batchbisect_Run_1_1_v15_ok : SoundGO Try.prog L.Δ_batchbisect_Run_1_1_v15 := L.Δ_batchbisect_below_1_v16_ok
def L.batchbisect_Run_1_1_v15_B (k : Int) (c : Int) (c1 : (List Int)) (K : Bool → Prop) : Prop :=
  L.batchbisect_below_1_v16 k c c1 (fun r => K (!r))
structure L.batchbisect_Run_1_1_v15 (k : Int) (c : Int) (c1 : (List Int)) (K : Bool → Prop) : Prop where
  out : L.batchbisect_Run_1_1_v15_B k c c1 K
def L.batchbisect_Run_1_1_v15_ss : List Sh := [.int .i64, .rc [.fn 37 [] [.rc [.int .i64] 0, .rc [.ro (.int .i64)] 0]] 0]
def L.batchbisect_Run_1_1_v15_G (vs : List V) (K : V → List Ob → Prop) : Prop := L.batchbisect_Run_1_1_v15 (gI (vs.getD 0 .any)) (gI ((gC ((gFc ((gC (vs.getD 1 .any)).getD 0 .any)).getD 0 .any)).getD 0 .any)) (gR (.int .i64) ((gC ((gFc ((gC (vs.getD 1 .any)).getD 0 .any)).getD 1 .any)).getD 0 .any)) (fun r0 => K (.x (.bool r0)) [])
def L.batchbisect_Run_1_1_v15_S : SemF := fun args K => argF L.batchbisect_Run_1_1_v15_ss args fun a => L.batchbisect_Run_1_1_v15_G a K
theorem L.batchbisect_Run_1_1_v15_eq (k : Int) (c : Int) (c1 : (List Int)) (K : V → List Ob → Prop) : run Try.prog L.Γ_batchbisect_Run_1_1_v15 L.Δ_batchbisect_Run_1_1_v15 .leaf .any Try.f35 [.x (.int .i64 k), .rc [.fn (.func 37) [] [.rc [.x (.int .i64 c)] 0, .rc [.ro (.int .i64) c1] 0]] 0] K = L.batchbisect_Run_1_1_v15_B k c c1 (fun r0 => K (.x (.bool r0)) []) := by
  kernel_rfl
theorem L.batchbisect_Run_1_1_v15_imp (vs : List V) (K : V → List Ob → Prop) (h : L.batchbisect_Run_1_1_v15_G vs K) : run Try.prog L.Γ_batchbisect_Run_1_1_v15 L.Δ_batchbisect_Run_1_1_v15 .leaf .any Try.f35 (mkL L.batchbisect_Run_1_1_v15_ss 0 vs) K :=
  Eq.mpr (Eq.trans (b := run Try.prog L.Γ_batchbisect_Run_1_1_v15 L.Δ_batchbisect_Run_1_1_v15 .leaf .any Try.f35 [.x (.int .i64 (gI (vs.getD 0 .any))), .rc [.fn (.func 37) [] [.rc [.x (.int .i64 (gI ((gC ((gFc ((gC (vs.getD 1 .any)).getD 0 .any)).getD 0 .any)).getD 0 .any)))] 0, .rc [.ro (.int .i64) (gR (.int .i64) ((gC ((gFc ((gC (vs.getD 1 .any)).getD 0 .any)).getD 1 .any)).getD 0 .any))] 0]] 0] K) (by kernel_rfl) (L.batchbisect_Run_1_1_v15_eq (gI (vs.getD 0 .any)) (gI ((gC ((gFc ((gC (vs.getD 1 .any)).getD 0 .any)).getD 0 .any)).getD 0 .any)) (gR (.int .i64) ((gC ((gFc ((gC (vs.getD 1 .any)).getD 0 .any)).getD 1 .any)).getD 0 .any)) K)) (L.batchbisect_Run_1_1_v15.out h)
theorem L.batchbisect_Run_1_1_v15_ok : SoundFn Try.prog 35 L.batchbisect_Run_1_1_v15_S :=
  fn_ok (sem := run Try.prog L.Γ_batchbisect_Run_1_1_v15 L.Δ_batchbisect_Run_1_1_v15 .leaf .any Try.f35) (ss := L.batchbisect_Run_1_1_v15_ss) (G := L.batchbisect_Run_1_1_v15_G) (run_ok L.Γ_batchbisect_Run_1_1_v15_ok L.Δ_batchbisect_Run_1_1_v15_ok Try.func35 (ann := .leaf) (annOk_leaf _)) L.batchbisect_Run_1_1_v15_imp
/-- slices.IndexFunc[[]int,int] -/
def L.Γ_slices_IndexFunc_v14 : Ctx := ctxA L.Γ_batchbisect_Run_1_1_v15 35 L.batchbisect_Run_1_1_v15_ss L.batchbisect_Run_1_1_v15_G
theorem L.Γ_slices_IndexFunc_v14_ok : SoundG Try.prog L.Γ_slices_IndexFunc_v14 := ctxA_ok L.Γ_batchbisect_Run_1_1_v15_ok L.batchbisect_Run_1_1_v15_ok
def L.Δ_slices_IndexFunc_v14 : CtxO := L.Δ_batchbisect_Run_1_1_v15
theorem L.Δ_slices_IndexFunc_v14_ok : SoundGO Try.prog L.Δ_slices_IndexFunc_v14 := L.Δ_batchbisect_Run_1_1_v15_ok
def L.slices_IndexFunc_v14_L1_b (s1 : (List Int)) (f2 : Int) (f3 : (List Int)) (v7 : Int) (v8 : Int) (self : Int → Prop) (Kx0 : Prop) (Kr : Int → Prop) : Prop :=
  (bif (decide (v8 < v7)) then (inB v8 s1.length) ∧ L.batchbisect_Run_1_1_v15 (s1.getD v8.toNat 0) f2 f3 (fun r => (bif r then Kr v8 else self (i64 (v8 + 1)))) else Kx0)
def L.slices_IndexFunc_v14_L1_R (s1 : (List Int)) (f2 : Int) (f3 : (List Int)) (v7 : Int) : Nat → Int → (Prop) → (Int → Prop) → Prop
  | 0, _, _, _ => False
  | fu + 1, v8, Kx0, Kr => L.slices_IndexFunc_v14_L1_b s1 f2 f3 v7 v8 (fun v8 => L.slices_IndexFunc_v14_L1_R s1 f2 f3 v7 fu v8 Kx0 Kr) Kx0 Kr
structure L.slices_IndexFunc_v14_L1 (s1 : (List Int)) (f2 : Int) (f3 : (List Int)) (v7 : Int) (v8 : Int) (Kx0 : Prop) (Kr : Int → Prop) : Prop where
  out : ∃ fu, L.slices_IndexFunc_v14_L1_R s1 f2 f3 v7 fu v8 Kx0 Kr
def L.slices_IndexFunc_v14_L1_d : LoopD := { keep := [0, 1, 7, 8], vecs := [], out := [], rets := [4] }
def L.slices_IndexFunc_v14_L1_ss : List Sh := [.ro (.int .i64), .fn 35 [] [.rc [.fn 37 [] [.rc [.int .i64] 0, .rc [.ro (.int .i64)] 0]] 0], .int .i64, .int .i64]
def L.slices_IndexFunc_v14_L1_os : List OSh := []
def L.slices_IndexFunc_v14_L1_G (vs : List V) (st : List Ob) (K : Ex → St) : Prop := L.slices_IndexFunc_v14_L1 (gR (.int .i64) (vs.getD 0 .any)) (gI ((gC ((gFc ((gC ((gFc (vs.getD 1 .any)).getD 0 .any)).getD 0 .any)).getD 0 .any)).getD 0 .any)) (gR (.int .i64) ((gC ((gFc ((gC ((gFc (vs.getD 1 .any)).getD 0 .any)).getD 0 .any)).getD 1 .any)).getD 0 .any)) (gI (vs.getD 2 .any)) (gI (vs.getD 3 .any)) (K (.exit 0) (setVs [] 0 (bld [] [] 0 19)) []) (fun r0 => K .ret (bld [4] [.x (.int .i64 r0)] 0 19) [])
def L.slices_IndexFunc_v14_L1_F (vs : List V) (st : List Ob) (K : Ex → St) : Prop := fitF L.slices_IndexFunc_v14_L1_ss L.slices_IndexFunc_v14_L1_os vs st (L.slices_IndexFunc_v14_L1_G vs st K)
theorem L.slices_IndexFunc_v14_L1_eq (s1 : (List Int)) (f2 : Int) (f3 : (List Int)) (v7 : Int) (K : Ex → St) : ∀ (fu : Nat) (v8 : Int), L.slices_IndexFunc_v14_L1_R s1 f2 f3 v7 fu v8 (K (.exit 0) (setVs [] 0 (bld [] [] 0 19)) []) (fun r0 => K .ret (bld [4] [.x (.int .i64 r0)] 0 19) []) = iterL (stepL (exec Try.prog (CC Try.prog L.Γ_slices_IndexFunc_v14 L.Δ_slices_IndexFunc_v14) (drawD Try.prog L.Γ_slices_IndexFunc_v14) .leaf (sub [true, false, true, false, false] (codeOf Try.f41))) 0 L.slices_IndexFunc_v14_L1_d K) fu (setVs L.slices_IndexFunc_v14_L1_d.vecs 0 (bld L.slices_IndexFunc_v14_L1_d.keep [.ro (.int .i64) s1, .fn (.func 35) [] [.rc [.fn (.func 37) [] [.rc [.x (.int .i64 f2)] 0, .rc [.ro (.int .i64) f3] 0]] 0], .x (.int .i64 v7), .x (.int .i64 v8)] 0 19)) [] := by
  intro fu
  induction fu with
  | zero => intros; rfl
  | succ fu ih =>
    intro v8
    have e : (fun v8 => L.slices_IndexFunc_v14_L1_R s1 f2 f3 v7 fu v8 (K (.exit 0) (setVs [] 0 (bld [] [] 0 19)) []) (fun r0 => K .ret (bld [4] [.x (.int .i64 r0)] 0 19) [])) = fun v8 => iterL (stepL (exec Try.prog (CC Try.prog L.Γ_slices_IndexFunc_v14 L.Δ_slices_IndexFunc_v14) (drawD Try.prog L.Γ_slices_IndexFunc_v14) .leaf (sub [true, false, true, false, false] (codeOf Try.f41))) 0 L.slices_IndexFunc_v14_L1_d K) fu (setVs L.slices_IndexFunc_v14_L1_d.vecs 0 (bld L.slices_IndexFunc_v14_L1_d.keep [.ro (.int .i64) s1, .fn (.func 35) [] [.rc [.fn (.func 37) [] [.rc [.x (.int .i64 f2)] 0, .rc [.ro (.int .i64) f3] 0]] 0], .x (.int .i64 v7), .x (.int .i64 v8)] 0 19)) [] := by
      funext v8; exact ih v8
    show L.slices_IndexFunc_v14_L1_b s1 f2 f3 v7 v8 (fun v8 => L.slices_IndexFunc_v14_L1_R s1 f2 f3 v7 fu v8 (K (.exit 0) (setVs [] 0 (bld [] [] 0 19)) []) (fun r0 => K .ret (bld [4] [.x (.int .i64 r0)] 0 19) [])) (K (.exit 0) (setVs [] 0 (bld [] [] 0 19)) []) (fun r0 => K .ret (bld [4] [.x (.int .i64 r0)] 0 19) []) = _
    rw [e]
    kernel_rfl
theorem L.slices_IndexFunc_v14_L1_imp (vs : List V) (st : List Ob) (K : Ex → St) (h : L.slices_IndexFunc_v14_L1_G vs st K) : ∃ fu, iterL (stepL (exec Try.prog (CC Try.prog L.Γ_slices_IndexFunc_v14 L.Δ_slices_IndexFunc_v14) (drawD Try.prog L.Γ_slices_IndexFunc_v14) .leaf (sub [true, false, true, false, false] (codeOf Try.f41))) 0 L.slices_IndexFunc_v14_L1_d K) fu (setVs L.slices_IndexFunc_v14_L1_d.vecs 0 (bld L.slices_IndexFunc_v14_L1_d.keep (mkL L.slices_IndexFunc_v14_L1_ss 0 vs) 0 19)) (mkOs L.slices_IndexFunc_v14_L1_os 0 st) :=
  exMap (fun fu h => Eq.mp (Eq.trans (L.slices_IndexFunc_v14_L1_eq (gR (.int .i64) (vs.getD 0 .any)) (gI ((gC ((gFc ((gC ((gFc (vs.getD 1 .any)).getD 0 .any)).getD 0 .any)).getD 0 .any)).getD 0 .any)) (gR (.int .i64) ((gC ((gFc ((gC ((gFc (vs.getD 1 .any)).getD 0 .any)).getD 0 .any)).getD 1 .any)).getD 0 .any)) (gI (vs.getD 2 .any)) K fu (gI (vs.getD 3 .any))) (by kernel_rfl)) h) (L.slices_IndexFunc_v14_L1.out h)
theorem L.slices_IndexFunc_v14_L1_ok : AnnOk Try.prog (CC Try.prog L.Γ_slices_IndexFunc_v14 L.Δ_slices_IndexFunc_v14) (drawD Try.prog L.Γ_slices_IndexFunc_v14) 0 (.lift L.slices_IndexFunc_v14_L1_d 19 L.slices_IndexFunc_v14_L1_F) (.loop (sub [true, false, true, false, false] (codeOf Try.f41))) :=
  lift_ok (an := .leaf) (ss := L.slices_IndexFunc_v14_L1_ss) (os := L.slices_IndexFunc_v14_L1_os) (G := L.slices_IndexFunc_v14_L1_G) (L0 := 0) rfl (annOk_leaf _) rfl L.slices_IndexFunc_v14_L1_imp
def L.slices_IndexFunc_v14_B (s : (List Int)) (f : Int) (f1 : (List Int)) (K : Int → Prop) : Prop :=
  L.slices_IndexFunc_v14_L1 s f f1 (s.length : Int) 0 (K (-1)) (fun r => K r)
structure L.slices_IndexFunc_v14 (s : (List Int)) (f : Int) (f1 : (List Int)) (K : Int → Prop) : Prop where
  out : L.slices_IndexFunc_v14_B s f f1 K
def L.slices_IndexFunc_v14_ss : List Sh := [.ro (.int .i64), .fn 35 [] [.rc [.fn 37 [] [.rc [.int .i64] 0, .rc [.ro (.int .i64)] 0]] 0]]
def L.slices_IndexFunc_v14_G (vs : List V) (K : V → List Ob → Prop) : Prop := L.slices_IndexFunc_v14 (gR (.int .i64) (vs.getD 0 .any)) (gI ((gC ((gFc ((gC ((gFc (vs.getD 1 .any)).getD 0 .any)).getD 0 .any)).getD 0 .any)).getD 0 .any)) (gR (.int .i64) ((gC ((gFc ((gC ((gFc (vs.getD 1 .any)).getD 0 .any)).getD 0 .any)).getD 1 .any)).getD 0 .any)) (fun r0 => K (.x (.int .i64 r0)) [])
def L.slices_IndexFunc_v14_S : SemF := fun args K => argF L.slices_IndexFunc_v14_ss args fun a => L.slices_IndexFunc_v14_G a K
theorem L.slices_IndexFunc_v14_eq (s : (List Int)) (f : Int) (f1 : (List Int)) (K : V → List Ob → Prop) : run Try.prog L.Γ_slices_IndexFunc_v14 L.Δ_slices_IndexFunc_v14 (.node .leaf (.node (.node .leaf (.lift L.slices_IndexFunc_v14_L1_d 19 L.slices_IndexFunc_v14_L1_F)) .leaf)) .any Try.f41 [.ro (.int .i64) s, .fn (.func 35) [] [.rc [.fn (.func 37) [] [.rc [.x (.int .i64 f)] 0, .rc [.ro (.int .i64) f1] 0]] 0]] K = L.slices_IndexFunc_v14_B s f f1 (fun r0 => K (.x (.int .i64 r0)) []) := by
  kernel_rfl
theorem L.slices_IndexFunc_v14_imp (vs : List V) (K : V → List Ob → Prop) (h : L.slices_IndexFunc_v14_G vs K) : run Try.prog L.Γ_slices_IndexFunc_v14 L.Δ_slices_IndexFunc_v14 (.node .leaf (.node (.node .leaf (.lift L.slices_IndexFunc_v14_L1_d 19 L.slices_IndexFunc_v14_L1_F)) .leaf)) .any Try.f41 (mkL L.slices_IndexFunc_v14_ss 0 vs) K :=
  Eq.mpr (Eq.trans (b := run Try.prog L.Γ_slices_IndexFunc_v14 L.Δ_slices_IndexFunc_v14 (.node .leaf (.node (.node .leaf (.lift L.slices_IndexFunc_v14_L1_d 19 L.slices_IndexFunc_v14_L1_F)) .leaf)) .any Try.f41 [.ro (.int .i64) (gR (.int .i64) (vs.getD 0 .any)), .fn (.func 35) [] [.rc [.fn (.func 37) [] [.rc [.x (.int .i64 (gI ((gC ((gFc ((gC ((gFc (vs.getD 1 .any)).getD 0 .any)).getD 0 .any)).getD 0 .any)).getD 0 .any)))] 0, .rc [.ro (.int .i64) (gR (.int .i64) ((gC ((gFc ((gC ((gFc (vs.getD 1 .any)).getD 0 .any)).getD 0 .any)).getD 1 .any)).getD 0 .any))] 0]] 0]] K) (by kernel_rfl) (L.slices_IndexFunc_v14_eq (gR (.int .i64) (vs.getD 0 .any)) (gI ((gC ((gFc ((gC ((gFc (vs.getD 1 .any)).getD 0 .any)).getD 0 .any)).getD 0 .any)).getD 0 .any)) (gR (.int .i64) ((gC ((gFc ((gC ((gFc (vs.getD 1 .any)).getD 0 .any)).getD 0 .any)).getD 1 .any)).getD 0 .any)) K)) (L.slices_IndexFunc_v14.out h)
theorem L.slices_IndexFunc_v14_ok : SoundFn Try.prog 41 L.slices_IndexFunc_v14_S :=
  fn_ok (sem := run Try.prog L.Γ_slices_IndexFunc_v14 L.Δ_slices_IndexFunc_v14 (.node .leaf (.node (.node .leaf (.lift L.slices_IndexFunc_v14_L1_d 19 L.slices_IndexFunc_v14_L1_F)) .leaf)) .any Try.f41) (ss := L.slices_IndexFunc_v14_ss) (G := L.slices_IndexFunc_v14_G) (run_ok L.Γ_slices_IndexFunc_v14_ok L.Δ_slices_IndexFunc_v14_ok Try.func41 (ann := (.node .leaf (.node (.node .leaf (.lift L.slices_IndexFunc_v14_L1_d 19 L.slices_IndexFunc_v14_L1_F)) .leaf))) ⟨(annOk_leaf _), ⟨⟨(annOk_leaf _), L.slices_IndexFunc_v14_L1_ok⟩, (annOk_leaf _)⟩⟩) L.slices_IndexFunc_v14_imp
/-- slices.ContainsFunc[[]int,int] -/
def L.Γ_slices_ContainsFunc_v13 : Ctx := ctxA L.Γ_slices_IndexFunc_v14 41 L.slices_IndexFunc_v14_ss L.slices_IndexFunc_v14_G
theorem L.Γ_slices_ContainsFunc_v13_ok : SoundG Try.prog L.Γ_slices_ContainsFunc_v13 := ctxA_ok L.Γ_slices_IndexFunc_v14_ok L.slices_IndexFunc_v14_ok
def L.Δ_slices_ContainsFunc_v13 : CtxO := L.Δ_slices_IndexFunc_v14
theorem L.Δ_slices_ContainsFunc_v13_ok : SoundGO Try.prog L.Δ_slices_ContainsFunc_v13 := L.Δ_slices_IndexFunc_v14_ok
def L.slices_ContainsFunc_v13_B (s : (List Int)) (f : Int) (f1 : (List Int)) (K : Bool → Prop) : Prop :=
  L.slices_IndexFunc_v14 s f f1 (fun r => K (decide (r ≥ 0)))
structure L.slices_ContainsFunc_v13 (s : (List Int)) (f : Int) (f1 : (List Int)) (K : Bool → Prop) : Prop where
  out : L.slices_ContainsFunc_v13_B s f f1 K
def L.slices_ContainsFunc_v13_ss : List Sh := [.ro (.int .i64), .fn 35 [] [.rc [.fn 37 [] [.rc [.int .i64] 0, .rc [.ro (.int .i64)] 0]] 0]]
def L.slices_ContainsFunc_v13_G (vs : List V) (K : V → List Ob → Prop) : Prop := L.slices_ContainsFunc_v13 (gR (.int .i64) (vs.getD 0 .any)) (gI ((gC ((gFc ((gC ((gFc (vs.getD 1 .any)).getD 0 .any)).getD 0 .any)).getD 0 .any)).getD 0 .any)) (gR (.int .i64) ((gC ((gFc ((gC ((gFc (vs.getD 1 .any)).getD 0 .any)).getD 0 .any)).getD 1 .any)).getD 0 .any)) (fun r0 => K (.x (.bool r0)) [])
def L.slices_ContainsFunc_v13_S : SemF := fun args K => argF L.slices_ContainsFunc_v13_ss args fun a => L.slices_ContainsFunc_v13_G a K
theorem L.slices_ContainsFunc_v13_eq (s : (List Int)) (f : Int) (f1 : (List Int)) (K : V → List Ob → Prop) : run Try.prog L.Γ_slices_ContainsFunc_v13 L.Δ_slices_ContainsFunc_v13 .leaf .any Try.f34 [.ro (.int .i64) s, .fn (.func 35) [] [.rc [.fn (.func 37) [] [.rc [.x (.int .i64 f)] 0, .rc [.ro (.int .i64) f1] 0]] 0]] K = L.slices_ContainsFunc_v13_B s f f1 (fun r0 => K (.x (.bool r0)) []) := by
  kernel_rfl
theorem L.slices_ContainsFunc_v13_imp (vs : List V) (K : V → List Ob → Prop) (h : L.slices_ContainsFunc_v13_G vs K) : run Try.prog L.Γ_slices_ContainsFunc_v13 L.Δ_slices_ContainsFunc_v13 .leaf .any Try.f34 (mkL L.slices_ContainsFunc_v13_ss 0 vs) K :=
  Eq.mpr (Eq.trans (b := run Try.prog L.Γ_slices_ContainsFunc_v13 L.Δ_slices_ContainsFunc_v13 .leaf .any Try.f34 [.ro (.int .i64) (gR (.int .i64) (vs.getD 0 .any)), .fn (.func 35) [] [.rc [.fn (.func 37) [] [.rc [.x (.int .i64 (gI ((gC ((gFc ((gC ((gFc (vs.getD 1 .any)).getD 0 .any)).getD 0 .any)).getD 0 .any)).getD 0 .any)))] 0, .rc [.ro (.int .i64) (gR (.int .i64) ((gC ((gFc ((gC ((gFc (vs.getD 1 .any)).getD 0 .any)).getD 0 .any)).getD 1 .any)).getD 0 .any))] 0]] 0]] K) (by kernel_rfl) (L.slices_ContainsFunc_v13_eq (gR (.int .i64) (vs.getD 0 .any)) (gI ((gC ((gFc ((gC ((gFc (vs.getD 1 .any)).getD 0 .any)).getD 0 .any)).getD 0 .any)).getD 0 .any)) (gR (.int .i64) ((gC ((gFc ((gC ((gFc (vs.getD 1 .any)).getD 0 .any)).getD 0 .any)).getD 1 .any)).getD 0 .any)) K)) (L.slices_ContainsFunc_v13.out h)
theorem L.slices_ContainsFunc_v13_ok : SoundFn Try.prog 34 L.slices_ContainsFunc_v13_S :=
  fn_ok (sem := run Try.prog L.Γ_slices_ContainsFunc_v13 L.Δ_slices_ContainsFunc_v13 .leaf .any Try.f34) (ss := L.slices_ContainsFunc_v13_ss) (G := L.slices_ContainsFunc_v13_G) (run_ok L.Γ_slices_ContainsFunc_v13_ok L.Δ_slices_ContainsFunc_v13_ok Try.func34 (ann := .leaf) (annOk_leaf _)) L.slices_ContainsFunc_v13_imp
/-- changeforge/batchbisect.Run$1 -/
def L.Γ_batchbisect_Run_1_v12 : Ctx := ctxA L.Γ_slices_ContainsFunc_v13 34 L.slices_ContainsFunc_v13_ss L.slices_ContainsFunc_v13_G
theorem L.Γ_batchbisect_Run_1_v12_ok : SoundG Try.prog L.Γ_batchbisect_Run_1_v12 := ctxA_ok L.Γ_slices_ContainsFunc_v13_ok L.slices_ContainsFunc_v13_ok
def L.Δ_batchbisect_Run_1_v12 : CtxO := L.Δ_slices_ContainsFunc_v13
theorem L.Δ_batchbisect_Run_1_v12_ok : SoundGO Try.prog L.Δ_batchbisect_Run_1_v12 := L.Δ_slices_ContainsFunc_v13_ok
def L.batchbisect_Run_1_v12_B (set : (List Int)) (c : Int) (c1 : (List Int)) (K : Bool → Prop) : Prop :=
  L.slices_ContainsFunc_v13 set c c1 (fun r => K (!r))
structure L.batchbisect_Run_1_v12 (set : (List Int)) (c : Int) (c1 : (List Int)) (K : Bool → Prop) : Prop where
  out : L.batchbisect_Run_1_v12_B set c c1 K
def L.batchbisect_Run_1_v12_ss : List Sh := [.ro (.int .i64), .rc [.fn 37 [] [.rc [.int .i64] 0, .rc [.ro (.int .i64)] 0]] 0]
def L.batchbisect_Run_1_v12_G (vs : List V) (K : V → List Ob → Prop) : Prop := L.batchbisect_Run_1_v12 (gR (.int .i64) (vs.getD 0 .any)) (gI ((gC ((gFc ((gC (vs.getD 1 .any)).getD 0 .any)).getD 0 .any)).getD 0 .any)) (gR (.int .i64) ((gC ((gFc ((gC (vs.getD 1 .any)).getD 0 .any)).getD 1 .any)).getD 0 .any)) (fun r0 => K (.x (.bool r0)) [])
def L.batchbisect_Run_1_v12_S : SemF := fun args K => argF L.batchbisect_Run_1_v12_ss args fun a => L.batchbisect_Run_1_v12_G a K
theorem L.batchbisect_Run_1_v12_eq (set : (List Int)) (c : Int) (c1 : (List Int)) (K : V → List Ob → Prop) : run Try.prog L.Γ_batchbisect_Run_1_v12 L.Δ_batchbisect_Run_1_v12 .leaf .any Try.f33 [.ro (.int .i64) set, .rc [.fn (.func 37) [] [.rc [.x (.int .i64 c)] 0, .rc [.ro (.int .i64) c1] 0]] 0] K = L.batchbisect_Run_1_v12_B set c c1 (fun r0 => K (.x (.bool r0)) []) := by
  kernel_rfl
theorem L.batchbisect_Run_1_v12_imp (vs : List V) (K : V → List Ob → Prop) (h : L.batchbisect_Run_1_v12_G vs K) : run Try.prog L.Γ_batchbisect_Run_1_v12 L.Δ_batchbisect_Run_1_v12 .leaf .any Try.f33 (mkL L.batchbisect_Run_1_v12_ss 0 vs) K :=
  Eq.mpr (Eq.trans (b := run Try.prog L.Γ_batchbisect_Run_1_v12 L.Δ_batchbisect_Run_1_v12 .leaf .any Try.f33 [.ro (.int .i64) (gR (.int .i64) (vs.getD 0 .any)), .rc [.fn (.func 37) [] [.rc [.x (.int .i64 (gI ((gC ((gFc ((gC (vs.getD 1 .any)).getD 0 .any)).getD 0 .any)).getD 0 .any)))] 0, .rc [.ro (.int .i64) (gR (.int .i64) ((gC ((gFc ((gC (vs.getD 1 .any)).getD 0 .any)).getD 1 .any)).getD 0 .any))] 0]] 0] K) (by kernel_rfl) (L.batchbisect_Run_1_v12_eq (gR (.int .i64) (vs.getD 0 .any)) (gI ((gC ((gFc ((gC (vs.getD 1 .any)).getD 0 .any)).getD 0 .any)).getD 0 .any)) (gR (.int .i64) ((gC ((gFc ((gC (vs.getD 1 .any)).getD 0 .any)).getD 1 .any)).getD 0 .any)) K)) (L.batchbisect_Run_1_v12.out h)
theorem L.batchbisect_Run_1_v12_ok : SoundFn Try.prog 33 L.batchbisect_Run_1_v12_S :=
  fn_ok (sem := run Try.prog L.Γ_batchbisect_Run_1_v12 L.Δ_batchbisect_Run_1_v12 .leaf .any Try.f33) (ss := L.batchbisect_Run_1_v12_ss) (G := L.batchbisect_Run_1_v12_G) (run_ok L.Γ_batchbisect_Run_1_v12_ok L.Δ_batchbisect_Run_1_v12_ok Try.func33 (ann := .leaf) (annOk_leaf _)) L.batchbisect_Run_1_v12_imp
/-- slices.IndexFunc[[][]int,[]int] -/
def L.Γ_slices_IndexFunc_v11 : Ctx := ctxA L.Γ_batchbisect_Run_1_v12 33 L.batchbisect_Run_1_v12_ss L.batchbisect_Run_1_v12_G
theorem L.Γ_slices_IndexFunc_v11_ok : SoundG Try.prog L.Γ_slices_IndexFunc_v11 := ctxA_ok L.Γ_batchbisect_Run_1_v12_ok L.batchbisect_Run_1_v12_ok
def L.Δ_slices_IndexFunc_v11 : CtxO := L.Δ_batchbisect_Run_1_v12
theorem L.Δ_slices_IndexFunc_v11_ok : SoundGO Try.prog L.Δ_slices_IndexFunc_v11 := L.Δ_batchbisect_Run_1_v12_ok
def L.slices_IndexFunc_v11_L1_b (s1 : (List (List Int))) (f2 : Int) (f3 : (List Int)) (v7 : Int) (v8 : Int) (self : Int → Prop) (Kx0 : Prop) (Kr : Int → Prop) : Prop :=
  (bif (decide (v8 < v7)) then (inB v8 s1.length) ∧ L.batchbisect_Run_1_v12 (s1.getD v8.toNat []) f2 f3 (fun r => (bif r then Kr v8 else self (i64 (v8 + 1)))) else Kx0)
def L.slices_IndexFunc_v11_L1_R (s1 : (List (List Int))) (f2 : Int) (f3 : (List Int)) (v7 : Int) : Nat → Int → (Prop) → (Int → Prop) → Prop
  | 0, _, _, _ => False
  | fu + 1, v8, Kx0, Kr => L.slices_IndexFunc_v11_L1_b s1 f2 f3 v7 v8 (fun v8 => L.slices_IndexFunc_v11_L1_R s1 f2 f3 v7 fu v8 Kx0 Kr) Kx0 Kr
structure L.slices_IndexFunc_v11_L1 (s1 : (List (List Int))) (f2 : Int) (f3 : (List Int)) (v7 : Int) (v8 : Int) (Kx0 : Prop) (Kr : Int → Prop) : Prop where
  out : ∃ fu, L.slices_IndexFunc_v11_L1_R s1 f2 f3 v7 fu v8 Kx0 Kr
def L.slices_IndexFunc_v11_L1_d : LoopD := { keep := [0, 1, 7, 8], vecs := [], out := [], rets := [4] }
def L.slices_IndexFunc_v11_L1_ss : List Sh := [.ro (.slice (.int .i64)), .fn 33 [] [.rc [.fn 37 [] [.rc [.int .i64] 0, .rc [.ro (.int .i64)] 0]] 0], .int .i64, .int .i64]
def L.slices_IndexFunc_v11_L1_os : List OSh := []
def L.slices_IndexFunc_v11_L1_G (vs : List V) (st : List Ob) (K : Ex → St) : Prop := L.slices_IndexFunc_v11_L1 (gR (.slice (.int .i64)) (vs.getD 0 .any)) (gI ((gC ((gFc ((gC ((gFc (vs.getD 1 .any)).getD 0 .any)).getD 0 .any)).getD 0 .any)).getD 0 .any)) (gR (.int .i64) ((gC ((gFc ((gC ((gFc (vs.getD 1 .any)).getD 0 .any)).getD 0 .any)).getD 1 .any)).getD 0 .any)) (gI (vs.getD 2 .any)) (gI (vs.getD 3 .any)) (K (.exit 0) (setVs [] 0 (bld [] [] 0 19)) []) (fun r0 => K .ret (bld [4] [.x (.int .i64 r0)] 0 19) [])
def L.slices_IndexFunc_v11_L1_F (vs : List V) (st : List Ob) (K : Ex → St) : Prop := fitF L.slices_IndexFunc_v11_L1_ss L.slices_IndexFunc_v11_L1_os vs st (L.slices_IndexFunc_v11_L1_G vs st K)
theorem L.slices_IndexFunc_v11_L1_eq (s1 : (List (List Int))) (f2 : Int) (f3 : (List Int)) (v7 : Int) (K : Ex → St) : ∀ (fu : Nat) (v8 : Int), L.slices_IndexFunc_v11_L1_R s1 f2 f3 v7 fu v8 (K (.exit 0) (setVs [] 0 (bld [] [] 0 19)) []) (fun r0 => K .ret (bld [4] [.x (.int .i64 r0)] 0 19) []) = iterL (stepL (exec Try.prog (CC Try.prog L.Γ_slices_IndexFunc_v11 L.Δ_slices_IndexFunc_v11) (drawD Try.prog L.Γ_slices_IndexFunc_v11) .leaf (sub [true, false, true, false, false] (codeOf Try.f40))) 0 L.slices_IndexFunc_v11_L1_d K) fu (setVs L.slices_IndexFunc_v11_L1_d.vecs 0 (bld L.slices_IndexFunc_v11_L1_d.keep [.ro (.slice (.int .i64)) s1, .fn (.func 33) [] [.rc [.fn (.func 37) [] [.rc [.x (.int .i64 f2)] 0, .rc [.ro (.int .i64) f3] 0]] 0], .x (.int .i64 v7), .x (.int .i64 v8)] 0 19)) [] := by
  intro fu
  induction fu with
  | zero => intros; rfl
  | succ fu ih =>
    intro v8
    have e : (fun v8 => L.slices_IndexFunc_v11_L1_R s1 f2 f3 v7 fu v8 (K (.exit 0) (setVs [] 0 (bld [] [] 0 19)) []) (fun r0 => K .ret (bld [4] [.x (.int .i64 r0)] 0 19) [])) = fun v8 => iterL (stepL (exec Try.prog (CC Try.prog L.Γ_slices_IndexFunc_v11 L.Δ_slices_IndexFunc_v11) (drawD Try.prog L.Γ_slices_IndexFunc_v11) .leaf (sub [true, false, true, false, false] (codeOf Try.f40))) 0 L.slices_IndexFunc_v11_L1_d K) fu (setVs L.slices_IndexFunc_v11_L1_d.vecs 0 (bld L.slices_IndexFunc_v11_L1_d.keep [.ro (.slice (.int .i64)) s1, .fn (.func 33) [] [.rc [.fn (.func 37) [] [.rc [.x (.int .i64 f2)] 0, .rc [.ro (.int .i64) f3] 0]] 0], .x (.int .i64 v7), .x (.int .i64 v8)] 0 19)) [] := by
      funext v8; exact ih v8
    show L.slices_IndexFunc_v11_L1_b s1 f2 f3 v7 v8 (fun v8 => L.slices_IndexFunc_v11_L1_R s1 f2 f3 v7 fu v8 (K (.exit 0) (setVs [] 0 (bld [] [] 0 19)) []) (fun r0 => K .ret (bld [4] [.x (.int .i64 r0)] 0 19) [])) (K (.exit 0) (setVs [] 0 (bld [] [] 0 19)) []) (fun r0 => K .ret (bld [4] [.x (.int .i64 r0)] 0 19) []) = _
    rw [e]
    kernel_rfl
theorem L.slices_IndexFunc_v11_L1_imp (vs : List V) (st : List Ob) (K : Ex → St) (h : L.slices_IndexFunc_v11_L1_G vs st K) : ∃ fu, iterL (stepL (exec Try.prog (CC Try.prog L.Γ_slices_IndexFunc_v11 L.Δ_slices_IndexFunc_v11) (drawD Try.prog L.Γ_slices_IndexFunc_v11) .leaf (sub [true, false, true, false, false] (codeOf Try.f40))) 0 L.slices_IndexFunc_v11_L1_d K) fu (setVs L.slices_IndexFunc_v11_L1_d.vecs 0 (bld L.slices_IndexFunc_v11_L1_d.keep (mkL L.slices_IndexFunc_v11_L1_ss 0 vs) 0 19)) (mkOs L.slices_IndexFunc_v11_L1_os 0 st) :=
  exMap (fun fu h => Eq.mp (Eq.trans (L.slices_IndexFunc_v11_L1_eq (gR (.slice (.int .i64)) (vs.getD 0 .any)) (gI ((gC ((gFc ((gC ((gFc (vs.getD 1 .any)).getD 0 .any)).getD 0 .any)).getD 0 .any)).getD 0 .any)) (gR (.int .i64) ((gC ((gFc ((gC ((gFc (vs.getD 1 .any)).getD 0 .any)).getD 0 .any)).getD 1 .any)).getD 0 .any)) (gI (vs.getD 2 .any)) K fu (gI (vs.getD 3 .any))) (by kernel_rfl)) h) (L.slices_IndexFunc_v11_L1.out h)
theorem L.slices_IndexFunc_v11_L1_ok : AnnOk Try.prog (CC Try.prog L.Γ_slices_IndexFunc_v11 L.Δ_slices_IndexFunc_v11) (drawD Try.prog L.Γ_slices_IndexFunc_v11) 0 (.lift L.slices_IndexFunc_v11_L1_d 19 L.slices_IndexFunc_v11_L1_F) (.loop (sub [true, false, true, false, false] (codeOf Try.f40))) :=
  lift_ok (an := .leaf) (ss := L.slices_IndexFunc_v11_L1_ss) (os := L.slices_IndexFunc_v11_L1_os) (G := L.slices_IndexFunc_v11_L1_G) (L0 := 0) rfl (annOk_leaf _) rfl L.slices_IndexFunc_v11_L1_imp
def L.slices_IndexFunc_v11_B (s : (List (List Int))) (f : Int) (f1 : (List Int)) (K : Int → Prop) : Prop :=
  L.slices_IndexFunc_v11_L1 s f f1 (s.length : Int) 0 (K (-1)) (fun r => K r)
structure L.slices_IndexFunc_v11 (s : (List (List Int))) (f : Int) (f1 : (List Int)) (K : Int → Prop) : Prop where
  out : L.slices_IndexFunc_v11_B s f f1 K
def L.slices_IndexFunc_v11_ss : List Sh := [.ro (.slice (.int .i64)), .fn 33 [] [.rc [.fn 37 [] [.rc [.int .i64] 0, .rc [.ro (.int .i64)] 0]] 0]]
def L.slices_IndexFunc_v11_G (vs : List V) (K : V → List Ob → Prop) : Prop := L.slices_IndexFunc_v11 (gR (.slice (.int .i64)) (vs.getD 0 .any)) (gI ((gC ((gFc ((gC ((gFc (vs.getD 1 .any)).getD 0 .any)).getD 0 .any)).getD 0 .any)).getD 0 .any)) (gR (.int .i64) ((gC ((gFc ((gC ((gFc (vs.getD 1 .any)).getD 0 .any)).getD 0 .any)).getD 1 .any)).getD 0 .any)) (fun r0 => K (.x (.int .i64 r0)) [])
def L.slices_IndexFunc_v11_S : SemF := fun args K => argF L.slices_IndexFunc_v11_ss args fun a => L.slices_IndexFunc_v11_G a K
theorem L.slices_IndexFunc_v11_eq (s : (List (List Int))) (f : Int) (f1 : (List Int)) (K : V → List Ob → Prop) : run Try.prog L.Γ_slices_IndexFunc_v11 L.Δ_slices_IndexFunc_v11 (.node .leaf (.node (.node .leaf (.lift L.slices_IndexFunc_v11_L1_d 19 L.slices_IndexFunc_v11_L1_F)) .leaf)) .any Try.f40 [.ro (.slice (.int .i64)) s, .fn (.func 33) [] [.rc [.fn (.func 37) [] [.rc [.x (.int .i64 f)] 0, .rc [.ro (.int .i64) f1] 0]] 0]] K = L.slices_IndexFunc_v11_B s f f1 (fun r0 => K (.x (.int .i64 r0)) []) := by
  kernel_rfl
theorem L.slices_IndexFunc_v11_imp (vs : List V) (K : V → List Ob → Prop) (h : L.slices_IndexFunc_v11_G vs K) : run Try.prog L.Γ_slices_IndexFunc_v11 L.Δ_slices_IndexFunc_v11 (.node .leaf (.node (.node .leaf (.lift L.slices_IndexFunc_v11_L1_d 19 L.slices_IndexFunc_v11_L1_F)) .leaf)) .any Try.f40 (mkL L.slices_IndexFunc_v11_ss 0 vs) K :=
  Eq.mpr (Eq.trans (b := run Try.prog L.Γ_slices_IndexFunc_v11 L.Δ_slices_IndexFunc_v11 (.node .leaf (.node (.node .leaf (.lift L.slices_IndexFunc_v11_L1_d 19 L.slices_IndexFunc_v11_L1_F)) .leaf)) .any Try.f40 [.ro (.slice (.int .i64)) (gR (.slice (.int .i64)) (vs.getD 0 .any)), .fn (.func 33) [] [.rc [.fn (.func 37) [] [.rc [.x (.int .i64 (gI ((gC ((gFc ((gC ((gFc (vs.getD 1 .any)).getD 0 .any)).getD 0 .any)).getD 0 .any)).getD 0 .any)))] 0, .rc [.ro (.int .i64) (gR (.int .i64) ((gC ((gFc ((gC ((gFc (vs.getD 1 .any)).getD 0 .any)).getD 0 .any)).getD 1 .any)).getD 0 .any))] 0]] 0]] K) (by kernel_rfl) (L.slices_IndexFunc_v11_eq (gR (.slice (.int .i64)) (vs.getD 0 .any)) (gI ((gC ((gFc ((gC ((gFc (vs.getD 1 .any)).getD 0 .any)).getD 0 .any)).getD 0 .any)).getD 0 .any)) (gR (.int .i64) ((gC ((gFc ((gC ((gFc (vs.getD 1 .any)).getD 0 .any)).getD 0 .any)).getD 1 .any)).getD 0 .any)) K)) (L.slices_IndexFunc_v11.out h)
theorem L.slices_IndexFunc_v11_ok : SoundFn Try.prog 40 L.slices_IndexFunc_v11_S :=
  fn_ok (sem := run Try.prog L.Γ_slices_IndexFunc_v11 L.Δ_slices_IndexFunc_v11 (.node .leaf (.node (.node .leaf (.lift L.slices_IndexFunc_v11_L1_d 19 L.slices_IndexFunc_v11_L1_F)) .leaf)) .any Try.f40) (ss := L.slices_IndexFunc_v11_ss) (G := L.slices_IndexFunc_v11_G) (run_ok L.Γ_slices_IndexFunc_v11_ok L.Δ_slices_IndexFunc_v11_ok Try.func40 (ann := (.node .leaf (.node (.node .leaf (.lift L.slices_IndexFunc_v11_L1_d 19 L.slices_IndexFunc_v11_L1_F)) .leaf))) ⟨(annOk_leaf _), ⟨⟨(annOk_leaf _), L.slices_IndexFunc_v11_L1_ok⟩, (annOk_leaf _)⟩⟩) L.slices_IndexFunc_v11_imp
/-- slices.ContainsFunc[[][]int,[]int] -/
def L.Γ_slices_ContainsFunc_v10 : Ctx := ctxA L.Γ_slices_IndexFunc_v11 40 L.slices_IndexFunc_v11_ss L.slices_IndexFunc_v11_G
theorem L.Γ_slices_ContainsFunc_v10_ok : SoundG Try.prog L.Γ_slices_ContainsFunc_v10 := ctxA_ok L.Γ_slices_IndexFunc_v11_ok L.slices_IndexFunc_v11_ok
def L.Δ_slices_ContainsFunc_v10 : CtxO := L.Δ_slices_IndexFunc_v11
theorem L.Δ_slices_ContainsFunc_v10_ok : SoundGO Try.prog L.Δ_slices_ContainsFunc_v10 := L.Δ_slices_IndexFunc_v11_ok
def L.slices_ContainsFunc_v10_B (s : (List (List Int))) (f : Int) (f1 : (List Int)) (K : Bool → Prop) : Prop :=
  L.slices_IndexFunc_v11 s f f1 (fun r => K (decide (r ≥ 0)))
structure L.slices_ContainsFunc_v10 (s : (List (List Int))) (f : Int) (f1 : (List Int)) (K : Bool → Prop) : Prop where
  out : L.slices_ContainsFunc_v10_B s f f1 K
def L.slices_ContainsFunc_v10_ss : List Sh := [.ro (.slice (.int .i64)), .fn 33 [] [.rc [.fn 37 [] [.rc [.int .i64] 0, .rc [.ro (.int .i64)] 0]] 0]]
def L.slices_ContainsFunc_v10_G (vs : List V) (K : V → List Ob → Prop) : Prop := L.slices_ContainsFunc_v10 (gR (.slice (.int .i64)) (vs.getD 0 .any)) (gI ((gC ((gFc ((gC ((gFc (vs.getD 1 .any)).getD 0 .any)).getD 0 .any)).getD 0 .any)).getD 0 .any)) (gR (.int .i64) ((gC ((gFc ((gC ((gFc (vs.getD 1 .any)).getD 0 .any)).getD 0 .any)).getD 1 .any)).getD 0 .any)) (fun r0 => K (.x (.bool r0)) [])
def L.slices_ContainsFunc_v10_S : SemF := fun args K => argF L.slices_ContainsFunc_v10_ss args fun a => L.slices_ContainsFunc_v10_G a K
theorem L.slices_ContainsFunc_v10_eq (s : (List (List Int))) (f : Int) (f1 : (List Int)) (K : V → List Ob → Prop) : run Try.prog L.Γ_slices_ContainsFunc_v10 L.Δ_slices_ContainsFunc_v10 .leaf .any Try.f32 [.ro (.slice (.int .i64)) s, .fn (.func 33) [] [.rc [.fn (.func 37) [] [.rc [.x (.int .i64 f)] 0, .rc [.ro (.int .i64) f1] 0]] 0]] K = L.slices_ContainsFunc_v10_B s f f1 (fun r0 => K (.x (.bool r0)) []) := by
  kernel_rfl
theorem L.slices_ContainsFunc_v10_imp (vs : List V) (K : V → List Ob → Prop) (h : L.slices_ContainsFunc_v10_G vs K) : run Try.prog L.Γ_slices_ContainsFunc_v10 L.Δ_slices_ContainsFunc_v10 .leaf .any Try.f32 (mkL L.slices_ContainsFunc_v10_ss 0 vs) K :=
  Eq.mpr (Eq.trans (b := run Try.prog L.Γ_slices_ContainsFunc_v10 L.Δ_slices_ContainsFunc_v10 .leaf .any Try.f32 [.ro (.slice (.int .i64)) (gR (.slice (.int .i64)) (vs.getD 0 .any)), .fn (.func 33) [] [.rc [.fn (.func 37) [] [.rc [.x (.int .i64 (gI ((gC ((gFc ((gC ((gFc (vs.getD 1 .any)).getD 0 .any)).getD 0 .any)).getD 0 .any)).getD 0 .any)))] 0, .rc [.ro (.int .i64) (gR (.int .i64) ((gC ((gFc ((gC ((gFc (vs.getD 1 .any)).getD 0 .any)).getD 0 .any)).getD 1 .any)).getD 0 .any))] 0]] 0]] K) (by kernel_rfl) (L.slices_ContainsFunc_v10_eq (gR (.slice (.int .i64)) (vs.getD 0 .any)) (gI ((gC ((gFc ((gC ((gFc (vs.getD 1 .any)).getD 0 .any)).getD 0 .any)).getD 0 .any)).getD 0 .any)) (gR (.int .i64) ((gC ((gFc ((gC ((gFc (vs.getD 1 .any)).getD 0 .any)).getD 0 .any)).getD 1 .any)).getD 0 .any)) K)) (L.slices_ContainsFunc_v10.out h)
theorem L.slices_ContainsFunc_v10_ok : SoundFn Try.prog 32 L.slices_ContainsFunc_v10_S :=
  fn_ok (sem := run Try.prog L.Γ_slices_ContainsFunc_v10 L.Δ_slices_ContainsFunc_v10 .leaf .any Try.f32) (ss := L.slices_ContainsFunc_v10_ss) (G := L.slices_ContainsFunc_v10_G) (run_ok L.Γ_slices_ContainsFunc_v10_ok L.Δ_slices_ContainsFunc_v10_ok Try.func32 (ann := .leaf) (annOk_leaf _)) L.slices_ContainsFunc_v10_imp
/-- changeforge/batchbisect.Run -/
def L.Γ_batchbisect_Run_v9 : Ctx := ctxA L.Γ_slices_ContainsFunc_v10 32 L.slices_ContainsFunc_v10_ss L.slices_ContainsFunc_v10_G
theorem L.Γ_batchbisect_Run_v9_ok : SoundG Try.prog L.Γ_batchbisect_Run_v9 := ctxA_ok L.Γ_slices_ContainsFunc_v10_ok L.slices_ContainsFunc_v10_ok
def L.Δ_batchbisect_Run_v9 : CtxO := L.Δ_slices_ContainsFunc_v10
theorem L.Δ_batchbisect_Run_v9_ok : SoundGO Try.prog L.Δ_batchbisect_Run_v9 := L.Δ_slices_ContainsFunc_v10_ok
def L.batchbisect_Run_v9_B (culprits : (List (List Int))) (in_ : Int) (in_1 : (List Int)) (K : Bool → Prop) : Prop :=
  L.slices_ContainsFunc_v10 culprits in_ in_1 (fun r => K r)
structure L.batchbisect_Run_v9 (culprits : (List (List Int))) (in_ : Int) (in_1 : (List Int)) (K : Bool → Prop) : Prop where
  out : L.batchbisect_Run_v9_B culprits in_ in_1 K
def L.batchbisect_Run_v9_ss : List Sh := [.ro (.slice (.int .i64)), .fn 37 [] [.rc [.int .i64] 0, .rc [.ro (.int .i64)] 0]]
def L.batchbisect_Run_v9_G (vs : List V) (K : V → List Ob → Prop) : Prop := L.batchbisect_Run_v9 (gR (.slice (.int .i64)) (vs.getD 0 .any)) (gI ((gC ((gFc (vs.getD 1 .any)).getD 0 .any)).getD 0 .any)) (gR (.int .i64) ((gC ((gFc (vs.getD 1 .any)).getD 1 .any)).getD 0 .any)) (fun r0 => K (.x (.bool r0)) [])
def L.batchbisect_Run_v9_S : SemF := fun args K => argF L.batchbisect_Run_v9_ss args fun a => L.batchbisect_Run_v9_G a K
theorem L.batchbisect_Run_v9_eq (culprits : (List (List Int))) (in_ : Int) (in_1 : (List Int)) (K : V → List Ob → Prop) : run Try.prog L.Γ_batchbisect_Run_v9 L.Δ_batchbisect_Run_v9 .leaf .any Try.f25 [.ro (.slice (.int .i64)) culprits, .fn (.func 37) [] [.rc [.x (.int .i64 in_)] 0, .rc [.ro (.int .i64) in_1] 0]] K = L.batchbisect_Run_v9_B culprits in_ in_1 (fun r0 => K (.x (.bool r0)) []) := by
  kernel_rfl
theorem L.batchbisect_Run_v9_imp (vs : List V) (K : V → List Ob → Prop) (h : L.batchbisect_Run_v9_G vs K) : run Try.prog L.Γ_batchbisect_Run_v9 L.Δ_batchbisect_Run_v9 .leaf .any Try.f25 (mkL L.batchbisect_Run_v9_ss 0 vs) K :=
  Eq.mpr (Eq.trans (b := run Try.prog L.Γ_batchbisect_Run_v9 L.Δ_batchbisect_Run_v9 .leaf .any Try.f25 [.ro (.slice (.int .i64)) (gR (.slice (.int .i64)) (vs.getD 0 .any)), .fn (.func 37) [] [.rc [.x (.int .i64 (gI ((gC ((gFc (vs.getD 1 .any)).getD 0 .any)).getD 0 .any)))] 0, .rc [.ro (.int .i64) (gR (.int .i64) ((gC ((gFc (vs.getD 1 .any)).getD 1 .any)).getD 0 .any))] 0]] K) (by kernel_rfl) (L.batchbisect_Run_v9_eq (gR (.slice (.int .i64)) (vs.getD 0 .any)) (gI ((gC ((gFc (vs.getD 1 .any)).getD 0 .any)).getD 0 .any)) (gR (.int .i64) ((gC ((gFc (vs.getD 1 .any)).getD 1 .any)).getD 0 .any)) K)) (L.batchbisect_Run_v9.out h)
theorem L.batchbisect_Run_v9_ok : SoundFn Try.prog 25 L.batchbisect_Run_v9_S :=
  fn_ok (sem := run Try.prog L.Γ_batchbisect_Run_v9 L.Δ_batchbisect_Run_v9 .leaf .any Try.f25) (ss := L.batchbisect_Run_v9_ss) (G := L.batchbisect_Run_v9_G) (run_ok L.Γ_batchbisect_Run_v9_ok L.Δ_batchbisect_Run_v9_ok Try.func25 (ann := .leaf) (annOk_leaf _)) L.batchbisect_Run_v9_imp
/-- changeforge/batchbisect.below -/
def L.Γ_batchbisect_below : Ctx := ctxA L.Γ_batchbisect_Run_v9 25 L.batchbisect_Run_v9_ss L.batchbisect_Run_v9_G
theorem L.Γ_batchbisect_below_ok : SoundG Try.prog L.Γ_batchbisect_below := ctxA_ok L.Γ_batchbisect_Run_v9_ok L.batchbisect_Run_v9_ok
def L.Δ_batchbisect_below : CtxO := L.Δ_batchbisect_Run_v9
theorem L.Δ_batchbisect_below_ok : SoundGO Try.prog L.Δ_batchbisect_below := L.Δ_batchbisect_Run_v9_ok
def L.batchbisect_below_B (culprits : (List (List Int))) (set : (List Int)) (n : Int) (K : Bool → Prop) : Prop :=
  L.batchbisect_Run_v9 culprits n set (fun r => K r)
structure L.batchbisect_below (culprits : (List (List Int))) (set : (List Int)) (n : Int) (K : Bool → Prop) : Prop where
  out : L.batchbisect_below_B culprits set n K
def L.batchbisect_below_ss : List Sh := [.ro (.slice (.int .i64)), .ro (.int .i64), .int .i64]
def L.batchbisect_below_G (vs : List V) (K : V → List Ob → Prop) : Prop := L.batchbisect_below (gR (.slice (.int .i64)) (vs.getD 0 .any)) (gR (.int .i64) (vs.getD 1 .any)) (gI (vs.getD 2 .any)) (fun r0 => K (.x (.bool r0)) [])
def L.batchbisect_below_S : SemF := fun args K => argF L.batchbisect_below_ss args fun a => L.batchbisect_below_G a K
theorem L.batchbisect_below_eq (culprits : (List (List Int))) (set : (List Int)) (n : Int) (K : V → List Ob → Prop) : run Try.prog L.Γ_batchbisect_below L.Δ_batchbisect_below .leaf .any Try.f29 [.ro (.slice (.int .i64)) culprits, .ro (.int .i64) set, .x (.int .i64 n)] K = L.batchbisect_below_B culprits set n (fun r0 => K (.x (.bool r0)) []) := by
  kernel_rfl
theorem L.batchbisect_below_imp (vs : List V) (K : V → List Ob → Prop) (h : L.batchbisect_below_G vs K) : run Try.prog L.Γ_batchbisect_below L.Δ_batchbisect_below .leaf .any Try.f29 (mkL L.batchbisect_below_ss 0 vs) K :=
  Eq.mpr (Eq.trans (b := run Try.prog L.Γ_batchbisect_below L.Δ_batchbisect_below .leaf .any Try.f29 [.ro (.slice (.int .i64)) (gR (.slice (.int .i64)) (vs.getD 0 .any)), .ro (.int .i64) (gR (.int .i64) (vs.getD 1 .any)), .x (.int .i64 (gI (vs.getD 2 .any)))] K) (by kernel_rfl) (L.batchbisect_below_eq (gR (.slice (.int .i64)) (vs.getD 0 .any)) (gR (.int .i64) (vs.getD 1 .any)) (gI (vs.getD 2 .any)) K)) (L.batchbisect_below.out h)
theorem L.batchbisect_below_ok : SoundFn Try.prog 29 L.batchbisect_below_S :=
  fn_ok (sem := run Try.prog L.Γ_batchbisect_below L.Δ_batchbisect_below .leaf .any Try.f29) (ss := L.batchbisect_below_ss) (G := L.batchbisect_below_G) (run_ok L.Γ_batchbisect_below_ok L.Δ_batchbisect_below_ok Try.func29 (ann := .leaf) (annOk_leaf _)) L.batchbisect_below_imp
/-- changeforge/batchbisect.check -/
def L.Γ_batchbisect_check : Ctx := ctxC L.Γ_batchbisect_below 29 L.batchbisect_below_S
theorem L.Γ_batchbisect_check_ok : SoundG Try.prog L.Γ_batchbisect_check := ctxC_ok L.Γ_batchbisect_below_ok L.batchbisect_below_ok
def L.Δ_batchbisect_check : CtxO := L.Δ_batchbisect_below
theorem L.Δ_batchbisect_check_ok : SoundGO Try.prog L.Δ_batchbisect_check := L.Δ_batchbisect_below_ok
def L.batchbisect_check_B (n : Int) (culprits : (List (List Int))) (K : Int → Int → Prop) : Prop :=
  L.batchbisect_Validate n culprits (fun rCode rIndex => (bif (!((rCode == 0) && ((rIndex == 0) && true))) then K rCode rIndex else L.batchbisect_below culprits ([] : List Int) n (fun r => (bif (!r) then K 6 (-1) else K 0 0))))
structure L.batchbisect_check (n : Int) (culprits : (List (List Int))) (K : Int → Int → Prop) : Prop where
  out : L.batchbisect_check_B n culprits K
def L.batchbisect_check_ss : List Sh := [.int .i64, .ro (.slice (.int .i64))]
def L.batchbisect_check_G (vs : List V) (K : V → List Ob → Prop) : Prop := L.batchbisect_check (gI (vs.getD 0 .any)) (gR (.slice (.int .i64)) (vs.getD 1 .any)) (fun r0 r1 => K (.agg [.x (.int .i64 r0), .x (.int .i64 r1)]) [])
def L.batchbisect_check_S : SemF := fun args K => argF L.batchbisect_check_ss args fun a => L.batchbisect_check_G a K
theorem L.batchbisect_check_eq (n : Int) (culprits : (List (List Int))) (K : V → List Ob → Prop) : run Try.prog L.Γ_batchbisect_check L.Δ_batchbisect_check .leaf .any Try.f28 [.x (.int .i64 n), .ro (.slice (.int .i64)) culprits] K = L.batchbisect_check_B n culprits (fun r0 r1 => K (.agg [.x (.int .i64 r0), .x (.int .i64 r1)]) []) := by
  kernel_rfl
theorem L.batchbisect_check_imp (vs : List V) (K : V → List Ob → Prop) (h : L.batchbisect_check_G vs K) : run Try.prog L.Γ_batchbisect_check L.Δ_batchbisect_check .leaf .any Try.f28 (mkL L.batchbisect_check_ss 0 vs) K :=
  Eq.mpr (Eq.trans (b := run Try.prog L.Γ_batchbisect_check L.Δ_batchbisect_check .leaf .any Try.f28 [.x (.int .i64 (gI (vs.getD 0 .any))), .ro (.slice (.int .i64)) (gR (.slice (.int .i64)) (vs.getD 1 .any))] K) (by kernel_rfl) (L.batchbisect_check_eq (gI (vs.getD 0 .any)) (gR (.slice (.int .i64)) (vs.getD 1 .any)) K)) (L.batchbisect_check.out h)
theorem L.batchbisect_check_ok : SoundFn Try.prog 28 L.batchbisect_check_S :=
  fn_ok (sem := run Try.prog L.Γ_batchbisect_check L.Δ_batchbisect_check .leaf .any Try.f28) (ss := L.batchbisect_check_ss) (G := L.batchbisect_check_G) (run_ok L.Γ_batchbisect_check_ok L.Δ_batchbisect_check_ok Try.func28 (ann := .leaf) (annOk_leaf _)) L.batchbisect_check_imp
/-- changeforge/batchbisect.First -/
def L.Γ_batchbisect_First : Ctx := ctxC L.Γ_batchbisect_check 28 L.batchbisect_check_S
theorem L.Γ_batchbisect_First_ok : SoundG Try.prog L.Γ_batchbisect_First := ctxC_ok L.Γ_batchbisect_check_ok L.batchbisect_check_ok
def L.Δ_batchbisect_First : CtxO := L.Δ_batchbisect_check
theorem L.Δ_batchbisect_First_ok : SoundGO Try.prog L.Δ_batchbisect_First := L.Δ_batchbisect_check_ok
def L.batchbisect_First_L1_b (culprits1 : (List (List Int))) (low : Int) (high : Int) (tests : (List Int)) (self : Int → Int → (List Int) → Prop) (Kx0 : Int → (List Int) → Prop) : Prop :=
  (bif (decide ((i64 (high - low)) > 1)) then ((2 : Int) ≠ 0) ∧ (fits (tests.length + ([(i64 ((i64 (low + high)).tdiv 2))] : List Int).length)) ∧ L.batchbisect_below culprits1 ([] : List Int) (i64 ((i64 (low + high)).tdiv 2)) (fun r => (bif r then self low (i64 ((i64 (low + high)).tdiv 2)) (tests ++ ([(i64 ((i64 (low + high)).tdiv 2))] : List Int)) else self (i64 ((i64 (low + high)).tdiv 2)) high (tests ++ ([(i64 ((i64 (low + high)).tdiv 2))] : List Int)))) else Kx0 high tests)
def L.batchbisect_First_L1_R (culprits1 : (List (List Int))) : Nat → Int → Int → (List Int) → (Int → (List Int) → Prop) → Prop
  | 0, _, _, _, _ => False
  | fu + 1, low, high, tests, Kx0 => L.batchbisect_First_L1_b culprits1 low high tests (fun low high tests => L.batchbisect_First_L1_R culprits1 fu low high tests Kx0) Kx0
structure L.batchbisect_First_L1 (culprits1 : (List (List Int))) (low : Int) (high : Int) (tests : (List Int)) (Kx0 : Int → (List Int) → Prop) : Prop where
  out : ∃ fu, L.batchbisect_First_L1_R culprits1 fu low high tests Kx0
def L.batchbisect_First_L1_d : LoopD := { keep := [1, 6, 9, 10], vecs := [(8, (.int .i64))], out := [6, 10], rets := [4, 5, 6] }
def L.batchbisect_First_L1_ss : List Sh := [.ro (.slice (.int .i64)), .cl 0 0, .int .i64, .int .i64]
def L.batchbisect_First_L1_os : List OSh := [.cells [.int .i64, .int .i64], .cells [.int .i64, .int .i64], .dead, .vec (.int .i64) true]
def L.batchbisect_First_L1_G (vs : List V) (st : List Ob) (K : Ex → St) : Prop := L.batchbisect_First_L1 (gR (.slice (.int .i64)) (vs.getD 0 .any)) (gI (vs.getD 2 .any)) (gI (vs.getD 3 .any)) (oX (.int .i64) (st.getD 3 .dead)) (fun r0 r1 => K (.exit 0) (setVs [(8, (.int .i64))] 3 (bld [6, 10] [.cl 0 0, .x (.int .i64 r0)] 0 43)) [.cells [.x (.int .i64 (gI ((oC (st.getD 0 .dead)).getD 0 .any))), .x (.int .i64 (gI ((oC (st.getD 0 .dead)).getD 1 .any)))], .cells [.x (.int .i64 (gI ((oC (st.getD 1 .dead)).getD 0 .any))), .x (.int .i64 (gI ((oC (st.getD 1 .dead)).getD 1 .any)))], .dead, .vec (.int .i64) 0 r1])
def L.batchbisect_First_L1_F (vs : List V) (st : List Ob) (K : Ex → St) : Prop := fitF L.batchbisect_First_L1_ss L.batchbisect_First_L1_os vs st (L.batchbisect_First_L1_G vs st K)
theorem L.batchbisect_First_L1_eq (culprits1 : (List (List Int))) (m0 : Int) (m01 : Int) (m1 : Int) (m11 : Int) (K : Ex → St) : ∀ (fu : Nat) (low : Int) (high : Int) (tests : (List Int)), L.batchbisect_First_L1_R culprits1 fu low high tests (fun r0 r1 => K (.exit 0) (setVs [(8, (.int .i64))] 3 (bld [6, 10] [.cl 0 0, .x (.int .i64 r0)] 0 43)) [.cells [.x (.int .i64 m0), .x (.int .i64 m01)], .cells [.x (.int .i64 m1), .x (.int .i64 m11)], .dead, .vec (.int .i64) 0 r1]) = iterL (stepL (exec Try.prog (CC Try.prog L.Γ_batchbisect_First L.Δ_batchbisect_First) (drawD Try.prog L.Γ_batchbisect_First) .leaf (sub [true, true, true, true, false, false, false] (codeOf Try.f10))) 3 L.batchbisect_First_L1_d K) fu (setVs L.batchbisect_First_L1_d.vecs 3 (bld L.batchbisect_First_L1_d.keep [.ro (.slice (.int .i64)) culprits1, .cl 0 0, .x (.int .i64 low), .x (.int .i64 high)] 0 43)) [.cells [.x (.int .i64 m0), .x (.int .i64 m01)], .cells [.x (.int .i64 m1), .x (.int .i64 m11)], .dead, .vec (.int .i64) 0 tests] := by
  intro fu
  induction fu with
  | zero => intros; rfl
  | succ fu ih =>
    intro low high tests
    have e : (fun low high tests => L.batchbisect_First_L1_R culprits1 fu low high tests (fun r0 r1 => K (.exit 0) (setVs [(8, (.int .i64))] 3 (bld [6, 10] [.cl 0 0, .x (.int .i64 r0)] 0 43)) [.cells [.x (.int .i64 m0), .x (.int .i64 m01)], .cells [.x (.int .i64 m1), .x (.int .i64 m11)], .dead, .vec (.int .i64) 0 r1])) = fun low high tests => iterL (stepL (exec Try.prog (CC Try.prog L.Γ_batchbisect_First L.Δ_batchbisect_First) (drawD Try.prog L.Γ_batchbisect_First) .leaf (sub [true, true, true, true, false, false, false] (codeOf Try.f10))) 3 L.batchbisect_First_L1_d K) fu (setVs L.batchbisect_First_L1_d.vecs 3 (bld L.batchbisect_First_L1_d.keep [.ro (.slice (.int .i64)) culprits1, .cl 0 0, .x (.int .i64 low), .x (.int .i64 high)] 0 43)) [.cells [.x (.int .i64 m0), .x (.int .i64 m01)], .cells [.x (.int .i64 m1), .x (.int .i64 m11)], .dead, .vec (.int .i64) 0 tests] := by
      funext low high tests; exact ih low high tests
    show L.batchbisect_First_L1_b culprits1 low high tests (fun low high tests => L.batchbisect_First_L1_R culprits1 fu low high tests (fun r0 r1 => K (.exit 0) (setVs [(8, (.int .i64))] 3 (bld [6, 10] [.cl 0 0, .x (.int .i64 r0)] 0 43)) [.cells [.x (.int .i64 m0), .x (.int .i64 m01)], .cells [.x (.int .i64 m1), .x (.int .i64 m11)], .dead, .vec (.int .i64) 0 r1])) (fun r0 r1 => K (.exit 0) (setVs [(8, (.int .i64))] 3 (bld [6, 10] [.cl 0 0, .x (.int .i64 r0)] 0 43)) [.cells [.x (.int .i64 m0), .x (.int .i64 m01)], .cells [.x (.int .i64 m1), .x (.int .i64 m11)], .dead, .vec (.int .i64) 0 r1]) = _
    rw [e]
    kernel_rfl
theorem L.batchbisect_First_L1_imp (vs : List V) (st : List Ob) (K : Ex → St) (h : L.batchbisect_First_L1_G vs st K) : ∃ fu, iterL (stepL (exec Try.prog (CC Try.prog L.Γ_batchbisect_First L.Δ_batchbisect_First) (drawD Try.prog L.Γ_batchbisect_First) .leaf (sub [true, true, true, true, false, false, false] (codeOf Try.f10))) 3 L.batchbisect_First_L1_d K) fu (setVs L.batchbisect_First_L1_d.vecs 3 (bld L.batchbisect_First_L1_d.keep (mkL L.batchbisect_First_L1_ss 0 vs) 0 43)) (mkOs L.batchbisect_First_L1_os 0 st) :=
  exMap (fun fu h => Eq.mp (Eq.trans (L.batchbisect_First_L1_eq (gR (.slice (.int .i64)) (vs.getD 0 .any)) (gI ((oC (st.getD 0 .dead)).getD 0 .any)) (gI ((oC (st.getD 0 .dead)).getD 1 .any)) (gI ((oC (st.getD 1 .dead)).getD 0 .any)) (gI ((oC (st.getD 1 .dead)).getD 1 .any)) K fu (gI (vs.getD 2 .any)) (gI (vs.getD 3 .any)) (oX (.int .i64) (st.getD 3 .dead))) (by kernel_rfl)) h) (L.batchbisect_First_L1.out h)
theorem L.batchbisect_First_L1_ok : AnnOk Try.prog (CC Try.prog L.Γ_batchbisect_First L.Δ_batchbisect_First) (drawD Try.prog L.Γ_batchbisect_First) 0 (.lift L.batchbisect_First_L1_d 43 L.batchbisect_First_L1_F) (.loop (sub [true, true, true, true, false, false, false] (codeOf Try.f10))) :=
  lift_ok (an := .leaf) (ss := L.batchbisect_First_L1_ss) (os := L.batchbisect_First_L1_os) (G := L.batchbisect_First_L1_G) (L0 := 3) rfl (annOk_leaf _) rfl L.batchbisect_First_L1_imp
def L.batchbisect_First_B (n : Int) (culprits : (List (List Int))) (K : Int → (List Int) → Int → Int → Prop) : Prop :=
  L.batchbisect_check n culprits (fun rCode rIndex => (bif (!((rCode == 0) && ((rIndex == 0) && true))) then K 0 ([] : List Int) rCode rIndex else L.batchbisect_First_L1 culprits 0 n ([n] : List Int) (fun high tests => K (i64 (high - 1)) tests 0 0)))
structure L.batchbisect_First (n : Int) (culprits : (List (List Int))) (K : Int → (List Int) → Int → Int → Prop) : Prop where
  out : L.batchbisect_First_B n culprits K
def L.batchbisect_First_ss : List Sh := [.int .i64, .ro (.slice (.int .i64))]
def L.batchbisect_First_G (vs : List V) (K : V → List Ob → Prop) : Prop := L.batchbisect_First (gI (vs.getD 0 .any)) (gR (.slice (.int .i64)) (vs.getD 1 .any)) (fun r0 r1 r2 r3 => K (.tup [.x (.int .i64 r0), .vec 0, .agg [.x (.int .i64 r2), .x (.int .i64 r3)]]) [.vec (.int .i64) 0 r1])
def L.batchbisect_First_S : SemF := fun args K => argF L.batchbisect_First_ss args fun a => L.batchbisect_First_G a K
theorem L.batchbisect_First_eq (n : Int) (culprits : (List (List Int))) (K : V → List Ob → Prop) : run Try.prog L.Γ_batchbisect_First L.Δ_batchbisect_First (.node .leaf (.node .leaf (.node .leaf (.node .leaf (.node (.lift L.batchbisect_First_L1_d 43 L.batchbisect_First_L1_F) .leaf))))) (.tup [.any, .sl (.int .i64), .any]) Try.f10 [.x (.int .i64 n), .ro (.slice (.int .i64)) culprits] K = L.batchbisect_First_B n culprits (fun r0 r1 r2 r3 => K (.tup [.x (.int .i64 r0), .vec 0, .agg [.x (.int .i64 r2), .x (.int .i64 r3)]]) [.vec (.int .i64) 0 r1]) := by
  kernel_rfl
theorem L.batchbisect_First_imp (vs : List V) (K : V → List Ob → Prop) (h : L.batchbisect_First_G vs K) : run Try.prog L.Γ_batchbisect_First L.Δ_batchbisect_First (.node .leaf (.node .leaf (.node .leaf (.node .leaf (.node (.lift L.batchbisect_First_L1_d 43 L.batchbisect_First_L1_F) .leaf))))) (.tup [.any, .sl (.int .i64), .any]) Try.f10 (mkL L.batchbisect_First_ss 0 vs) K :=
  Eq.mpr (Eq.trans (b := run Try.prog L.Γ_batchbisect_First L.Δ_batchbisect_First (.node .leaf (.node .leaf (.node .leaf (.node .leaf (.node (.lift L.batchbisect_First_L1_d 43 L.batchbisect_First_L1_F) .leaf))))) (.tup [.any, .sl (.int .i64), .any]) Try.f10 [.x (.int .i64 (gI (vs.getD 0 .any))), .ro (.slice (.int .i64)) (gR (.slice (.int .i64)) (vs.getD 1 .any))] K) (by kernel_rfl) (L.batchbisect_First_eq (gI (vs.getD 0 .any)) (gR (.slice (.int .i64)) (vs.getD 1 .any)) K)) (L.batchbisect_First.out h)
theorem L.batchbisect_First_ok : SoundFn Try.prog 10 L.batchbisect_First_S :=
  fn_ok (sem := run Try.prog L.Γ_batchbisect_First L.Δ_batchbisect_First (.node .leaf (.node .leaf (.node .leaf (.node .leaf (.node (.lift L.batchbisect_First_L1_d 43 L.batchbisect_First_L1_F) .leaf))))) (.tup [.any, .sl (.int .i64), .any]) Try.f10) (ss := L.batchbisect_First_ss) (G := L.batchbisect_First_G) (run_ok L.Γ_batchbisect_First_ok L.Δ_batchbisect_First_ok Try.func10 (ann := (.node .leaf (.node .leaf (.node .leaf (.node .leaf (.node (.lift L.batchbisect_First_L1_d 43 L.batchbisect_First_L1_F) .leaf)))))) ⟨(annOk_leaf _), ⟨(annOk_leaf _), ⟨(annOk_leaf _), ⟨(annOk_leaf _), ⟨L.batchbisect_First_L1_ok, (annOk_leaf _)⟩⟩⟩⟩⟩) L.batchbisect_First_imp
/-- changeforge/batchbisect.Minimal -/
def L.Γ_batchbisect_Minimal : Ctx := ctxC L.Γ_batchbisect_First 10 L.batchbisect_First_S
theorem L.Γ_batchbisect_Minimal_ok : SoundG Try.prog L.Γ_batchbisect_Minimal := ctxC_ok L.Γ_batchbisect_First_ok L.batchbisect_First_ok
def L.Δ_batchbisect_Minimal : CtxO := L.Δ_batchbisect_First
theorem L.Δ_batchbisect_Minimal_ok : SoundGO Try.prog L.Δ_batchbisect_Minimal := L.Δ_batchbisect_First_ok
def L.batchbisect_Minimal_L2_b (culprits2 : (List (List Int))) (v20 : Int) (out1 : (List Int)) (v21 : Int) (self : Int → Prop) (Kx2 : (List Int) → Prop) : Prop :=
  (bif (decide (v21 < v20)) then L.batchbisect_below culprits2 out1 (i64 (v21 + 1)) (fun r1 => (bif r1 then (fits (out1.length + ([v21] : List Int).length)) ∧ Kx2 (out1 ++ ([v21] : List Int)) else self (i64 (v21 + 1)))) else Kx2 out1)
def L.batchbisect_Minimal_L2_R (culprits2 : (List (List Int))) (v20 : Int) (out1 : (List Int)) : Nat → Int → ((List Int) → Prop) → Prop
  | 0, _, _ => False
  | fu + 1, v21, Kx2 => L.batchbisect_Minimal_L2_b culprits2 v20 out1 v21 (fun v21 => L.batchbisect_Minimal_L2_R culprits2 v20 out1 fu v21 Kx2) Kx2
structure L.batchbisect_Minimal_L2 (culprits2 : (List (List Int))) (v20 : Int) (out1 : (List Int)) (v21 : Int) (Kx2 : (List Int) → Prop) : Prop where
  out : ∃ fu, L.batchbisect_Minimal_L2_R culprits2 v20 out1 fu v21 Kx2
def L.batchbisect_Minimal_L2_d : LoopD := { keep := [0, 1, 5, 20, 21], vecs := [(7, (.int .i64))], out := [0, 1, 5], rets := [4, 5] }
def L.batchbisect_Minimal_L2_ss : List Sh := [.int .i64, .ro (.slice (.int .i64)), .cl 0 0, .int .i64, .int .i64]
def L.batchbisect_Minimal_L2_os : List OSh := [.cells [.int .i64, .int .i64], .cells [.int .i64, .int .i64], .dead, .vec (.int .i64) true]
def L.batchbisect_Minimal_L2_G (vs : List V) (st : List Ob) (K : Ex → St) : Prop := L.batchbisect_Minimal_L2 (gR (.slice (.int .i64)) (vs.getD 1 .any)) (gI (vs.getD 3 .any)) (oX (.int .i64) (st.getD 3 .dead)) (gI (vs.getD 4 .any)) (fun r0 => K (.exit 2) (setVs [(7, (.int .i64))] 3 (bld [0, 1, 5] [.x (.int .i64 (gI (vs.getD 0 .any))), .ro (.slice (.int .i64)) (gR (.slice (.int .i64)) (vs.getD 1 .any)), .cl 0 0] 0 38)) [.cells [.x (.int .i64 (gI ((oC (st.getD 0 .dead)).getD 0 .any))), .x (.int .i64 (gI ((oC (st.getD 0 .dead)).getD 1 .any)))], .cells [.x (.int .i64 (gI ((oC (st.getD 1 .dead)).getD 0 .any))), .x (.int .i64 (gI ((oC (st.getD 1 .dead)).getD 1 .any)))], .dead, .vec (.int .i64) 0 r0])
def L.batchbisect_Minimal_L2_F (vs : List V) (st : List Ob) (K : Ex → St) : Prop := fitF L.batchbisect_Minimal_L2_ss L.batchbisect_Minimal_L2_os vs st (L.batchbisect_Minimal_L2_G vs st K)
theorem L.batchbisect_Minimal_L2_eq (n2 : Int) (culprits2 : (List (List Int))) (v20 : Int) (m02 : Int) (m03 : Int) (m12 : Int) (m13 : Int) (out1 : (List Int)) (K : Ex → St) : ∀ (fu : Nat) (v21 : Int), L.batchbisect_Minimal_L2_R culprits2 v20 out1 fu v21 (fun r0 => K (.exit 2) (setVs [(7, (.int .i64))] 3 (bld [0, 1, 5] [.x (.int .i64 n2), .ro (.slice (.int .i64)) culprits2, .cl 0 0] 0 38)) [.cells [.x (.int .i64 m02), .x (.int .i64 m03)], .cells [.x (.int .i64 m12), .x (.int .i64 m13)], .dead, .vec (.int .i64) 0 r0]) = iterL (stepL (exec Try.prog (CC Try.prog L.Γ_batchbisect_Minimal L.Δ_batchbisect_Minimal) (drawD Try.prog L.Γ_batchbisect_Minimal) .leaf (sub [true, true, true, false, false, false, true, false, true, false, false] (codeOf Try.f11))) 3 L.batchbisect_Minimal_L2_d K) fu (setVs L.batchbisect_Minimal_L2_d.vecs 3 (bld L.batchbisect_Minimal_L2_d.keep [.x (.int .i64 n2), .ro (.slice (.int .i64)) culprits2, .cl 0 0, .x (.int .i64 v20), .x (.int .i64 v21)] 0 38)) [.cells [.x (.int .i64 m02), .x (.int .i64 m03)], .cells [.x (.int .i64 m12), .x (.int .i64 m13)], .dead, .vec (.int .i64) 0 out1] := by
  intro fu
  induction fu with
  | zero => intros; rfl
  | succ fu ih =>
    intro v21
    have e : (fun v21 => L.batchbisect_Minimal_L2_R culprits2 v20 out1 fu v21 (fun r0 => K (.exit 2) (setVs [(7, (.int .i64))] 3 (bld [0, 1, 5] [.x (.int .i64 n2), .ro (.slice (.int .i64)) culprits2, .cl 0 0] 0 38)) [.cells [.x (.int .i64 m02), .x (.int .i64 m03)], .cells [.x (.int .i64 m12), .x (.int .i64 m13)], .dead, .vec (.int .i64) 0 r0])) = fun v21 => iterL (stepL (exec Try.prog (CC Try.prog L.Γ_batchbisect_Minimal L.Δ_batchbisect_Minimal) (drawD Try.prog L.Γ_batchbisect_Minimal) .leaf (sub [true, true, true, false, false, false, true, false, true, false, false] (codeOf Try.f11))) 3 L.batchbisect_Minimal_L2_d K) fu (setVs L.batchbisect_Minimal_L2_d.vecs 3 (bld L.batchbisect_Minimal_L2_d.keep [.x (.int .i64 n2), .ro (.slice (.int .i64)) culprits2, .cl 0 0, .x (.int .i64 v20), .x (.int .i64 v21)] 0 38)) [.cells [.x (.int .i64 m02), .x (.int .i64 m03)], .cells [.x (.int .i64 m12), .x (.int .i64 m13)], .dead, .vec (.int .i64) 0 out1] := by
      funext v21; exact ih v21
    show L.batchbisect_Minimal_L2_b culprits2 v20 out1 v21 (fun v21 => L.batchbisect_Minimal_L2_R culprits2 v20 out1 fu v21 (fun r0 => K (.exit 2) (setVs [(7, (.int .i64))] 3 (bld [0, 1, 5] [.x (.int .i64 n2), .ro (.slice (.int .i64)) culprits2, .cl 0 0] 0 38)) [.cells [.x (.int .i64 m02), .x (.int .i64 m03)], .cells [.x (.int .i64 m12), .x (.int .i64 m13)], .dead, .vec (.int .i64) 0 r0])) (fun r0 => K (.exit 2) (setVs [(7, (.int .i64))] 3 (bld [0, 1, 5] [.x (.int .i64 n2), .ro (.slice (.int .i64)) culprits2, .cl 0 0] 0 38)) [.cells [.x (.int .i64 m02), .x (.int .i64 m03)], .cells [.x (.int .i64 m12), .x (.int .i64 m13)], .dead, .vec (.int .i64) 0 r0]) = _
    rw [e]
    kernel_rfl
theorem L.batchbisect_Minimal_L2_imp (vs : List V) (st : List Ob) (K : Ex → St) (h : L.batchbisect_Minimal_L2_G vs st K) : ∃ fu, iterL (stepL (exec Try.prog (CC Try.prog L.Γ_batchbisect_Minimal L.Δ_batchbisect_Minimal) (drawD Try.prog L.Γ_batchbisect_Minimal) .leaf (sub [true, true, true, false, false, false, true, false, true, false, false] (codeOf Try.f11))) 3 L.batchbisect_Minimal_L2_d K) fu (setVs L.batchbisect_Minimal_L2_d.vecs 3 (bld L.batchbisect_Minimal_L2_d.keep (mkL L.batchbisect_Minimal_L2_ss 0 vs) 0 38)) (mkOs L.batchbisect_Minimal_L2_os 0 st) :=
  exMap (fun fu h => Eq.mp (Eq.trans (L.batchbisect_Minimal_L2_eq (gI (vs.getD 0 .any)) (gR (.slice (.int .i64)) (vs.getD 1 .any)) (gI (vs.getD 3 .any)) (gI ((oC (st.getD 0 .dead)).getD 0 .any)) (gI ((oC (st.getD 0 .dead)).getD 1 .any)) (gI ((oC (st.getD 1 .dead)).getD 0 .any)) (gI ((oC (st.getD 1 .dead)).getD 1 .any)) (oX (.int .i64) (st.getD 3 .dead)) K fu (gI (vs.getD 4 .any))) (by kernel_rfl)) h) (L.batchbisect_Minimal_L2.out h)
theorem L.batchbisect_Minimal_L2_ok : AnnOk Try.prog (CC Try.prog L.Γ_batchbisect_Minimal L.Δ_batchbisect_Minimal) (drawD Try.prog L.Γ_batchbisect_Minimal) 0 (.lift L.batchbisect_Minimal_L2_d 38 L.batchbisect_Minimal_L2_F) (.loop (sub [true, true, true, false, false, false, true, false, true, false, false] (codeOf Try.f11))) :=
  lift_ok (an := .leaf) (ss := L.batchbisect_Minimal_L2_ss) (os := L.batchbisect_Minimal_L2_os) (G := L.batchbisect_Minimal_L2_G) (L0 := 3) rfl (annOk_leaf _) rfl L.batchbisect_Minimal_L2_imp
def L.batchbisect_Minimal_L1_b (n1 : Int) (culprits1 : (List (List Int))) (out : (List Int)) (self : (List Int) → Prop) (Kx0 : (List Int) → Prop) : Prop :=
  L.batchbisect_below culprits1 out 0 (fun r => (bif (!r) then L.batchbisect_Minimal_L2 culprits1 n1 out 0 (fun out1 => self out1) else Kx0 out))
def L.batchbisect_Minimal_L1_R (n1 : Int) (culprits1 : (List (List Int))) : Nat → (List Int) → ((List Int) → Prop) → Prop
  | 0, _, _ => False
  | fu + 1, out, Kx0 => L.batchbisect_Minimal_L1_b n1 culprits1 out (fun out => L.batchbisect_Minimal_L1_R n1 culprits1 fu out Kx0) Kx0
structure L.batchbisect_Minimal_L1 (n1 : Int) (culprits1 : (List (List Int))) (out : (List Int)) (Kx0 : (List Int) → Prop) : Prop where
  out : ∃ fu, L.batchbisect_Minimal_L1_R n1 culprits1 fu out Kx0
def L.batchbisect_Minimal_L1_d : LoopD := { keep := [0, 1, 5], vecs := [(7, (.int .i64))], out := [5], rets := [4, 5] }
def L.batchbisect_Minimal_L1_ss : List Sh := [.int .i64, .ro (.slice (.int .i64)), .cl 0 0]
def L.batchbisect_Minimal_L1_os : List OSh := [.cells [.int .i64, .int .i64], .cells [.int .i64, .int .i64], .vec (.int .i64) true]
def L.batchbisect_Minimal_L1_G (vs : List V) (st : List Ob) (K : Ex → St) : Prop := L.batchbisect_Minimal_L1 (gI (vs.getD 0 .any)) (gR (.slice (.int .i64)) (vs.getD 1 .any)) (oX (.int .i64) (st.getD 2 .dead)) (fun r0 => K (.exit 0) (setVs [(7, (.int .i64))] 2 (bld [5] [.cl 0 0] 0 38)) [.cells [.x (.int .i64 (gI ((oC (st.getD 0 .dead)).getD 0 .any))), .x (.int .i64 (gI ((oC (st.getD 0 .dead)).getD 1 .any)))], .cells [.x (.int .i64 (gI ((oC (st.getD 1 .dead)).getD 0 .any))), .x (.int .i64 (gI ((oC (st.getD 1 .dead)).getD 1 .any)))], .vec (.int .i64) 0 r0])
def L.batchbisect_Minimal_L1_F (vs : List V) (st : List Ob) (K : Ex → St) : Prop := fitF L.batchbisect_Minimal_L1_ss L.batchbisect_Minimal_L1_os vs st (L.batchbisect_Minimal_L1_G vs st K)
theorem L.batchbisect_Minimal_L1_eq (n1 : Int) (culprits1 : (List (List Int))) (m0 : Int) (m01 : Int) (m1 : Int) (m11 : Int) (K : Ex → St) : ∀ (fu : Nat) (out : (List Int)), L.batchbisect_Minimal_L1_R n1 culprits1 fu out (fun r0 => K (.exit 0) (setVs [(7, (.int .i64))] 2 (bld [5] [.cl 0 0] 0 38)) [.cells [.x (.int .i64 m0), .x (.int .i64 m01)], .cells [.x (.int .i64 m1), .x (.int .i64 m11)], .vec (.int .i64) 0 r0]) = iterL (stepL (exec Try.prog (CC Try.prog L.Γ_batchbisect_Minimal L.Δ_batchbisect_Minimal) (drawD Try.prog L.Γ_batchbisect_Minimal) (.node .leaf (.node .leaf (.lift L.batchbisect_Minimal_L2_d 38 L.batchbisect_Minimal_L2_F))) (sub [true, true, true, false, false, false] (codeOf Try.f11))) 2 L.batchbisect_Minimal_L1_d K) fu (setVs L.batchbisect_Minimal_L1_d.vecs 2 (bld L.batchbisect_Minimal_L1_d.keep [.x (.int .i64 n1), .ro (.slice (.int .i64)) culprits1, .cl 0 0] 0 38)) [.cells [.x (.int .i64 m0), .x (.int .i64 m01)], .cells [.x (.int .i64 m1), .x (.int .i64 m11)], .vec (.int .i64) 0 out] := by
  intro fu
  induction fu with
  | zero => intros; rfl
  | succ fu ih =>
    intro out
    have e : (fun out => L.batchbisect_Minimal_L1_R n1 culprits1 fu out (fun r0 => K (.exit 0) (setVs [(7, (.int .i64))] 2 (bld [5] [.cl 0 0] 0 38)) [.cells [.x (.int .i64 m0), .x (.int .i64 m01)], .cells [.x (.int .i64 m1), .x (.int .i64 m11)], .vec (.int .i64) 0 r0])) = fun out => iterL (stepL (exec Try.prog (CC Try.prog L.Γ_batchbisect_Minimal L.Δ_batchbisect_Minimal) (drawD Try.prog L.Γ_batchbisect_Minimal) (.node .leaf (.node .leaf (.lift L.batchbisect_Minimal_L2_d 38 L.batchbisect_Minimal_L2_F))) (sub [true, true, true, false, false, false] (codeOf Try.f11))) 2 L.batchbisect_Minimal_L1_d K) fu (setVs L.batchbisect_Minimal_L1_d.vecs 2 (bld L.batchbisect_Minimal_L1_d.keep [.x (.int .i64 n1), .ro (.slice (.int .i64)) culprits1, .cl 0 0] 0 38)) [.cells [.x (.int .i64 m0), .x (.int .i64 m01)], .cells [.x (.int .i64 m1), .x (.int .i64 m11)], .vec (.int .i64) 0 out] := by
      funext out; exact ih out
    show L.batchbisect_Minimal_L1_b n1 culprits1 out (fun out => L.batchbisect_Minimal_L1_R n1 culprits1 fu out (fun r0 => K (.exit 0) (setVs [(7, (.int .i64))] 2 (bld [5] [.cl 0 0] 0 38)) [.cells [.x (.int .i64 m0), .x (.int .i64 m01)], .cells [.x (.int .i64 m1), .x (.int .i64 m11)], .vec (.int .i64) 0 r0])) (fun r0 => K (.exit 0) (setVs [(7, (.int .i64))] 2 (bld [5] [.cl 0 0] 0 38)) [.cells [.x (.int .i64 m0), .x (.int .i64 m01)], .cells [.x (.int .i64 m1), .x (.int .i64 m11)], .vec (.int .i64) 0 r0]) = _
    rw [e]
    kernel_rfl
theorem L.batchbisect_Minimal_L1_imp (vs : List V) (st : List Ob) (K : Ex → St) (h : L.batchbisect_Minimal_L1_G vs st K) : ∃ fu, iterL (stepL (exec Try.prog (CC Try.prog L.Γ_batchbisect_Minimal L.Δ_batchbisect_Minimal) (drawD Try.prog L.Γ_batchbisect_Minimal) (.node .leaf (.node .leaf (.lift L.batchbisect_Minimal_L2_d 38 L.batchbisect_Minimal_L2_F))) (sub [true, true, true, false, false, false] (codeOf Try.f11))) 2 L.batchbisect_Minimal_L1_d K) fu (setVs L.batchbisect_Minimal_L1_d.vecs 2 (bld L.batchbisect_Minimal_L1_d.keep (mkL L.batchbisect_Minimal_L1_ss 0 vs) 0 38)) (mkOs L.batchbisect_Minimal_L1_os 0 st) :=
  exMap (fun fu h => Eq.mp (Eq.trans (L.batchbisect_Minimal_L1_eq (gI (vs.getD 0 .any)) (gR (.slice (.int .i64)) (vs.getD 1 .any)) (gI ((oC (st.getD 0 .dead)).getD 0 .any)) (gI ((oC (st.getD 0 .dead)).getD 1 .any)) (gI ((oC (st.getD 1 .dead)).getD 0 .any)) (gI ((oC (st.getD 1 .dead)).getD 1 .any)) K fu (oX (.int .i64) (st.getD 2 .dead))) (by kernel_rfl)) h) (L.batchbisect_Minimal_L1.out h)
theorem L.batchbisect_Minimal_L1_ok : AnnOk Try.prog (CC Try.prog L.Γ_batchbisect_Minimal L.Δ_batchbisect_Minimal) (drawD Try.prog L.Γ_batchbisect_Minimal) 0 (.lift L.batchbisect_Minimal_L1_d 38 L.batchbisect_Minimal_L1_F) (.loop (sub [true, true, true, false, false, false] (codeOf Try.f11))) :=
  lift_ok (an := (.node .leaf (.node .leaf (.lift L.batchbisect_Minimal_L2_d 38 L.batchbisect_Minimal_L2_F)))) (ss := L.batchbisect_Minimal_L1_ss) (os := L.batchbisect_Minimal_L1_os) (G := L.batchbisect_Minimal_L1_G) (L0 := 2) rfl ⟨(annOk_leaf _), ⟨(annOk_leaf _), L.batchbisect_Minimal_L2_ok⟩⟩ rfl L.batchbisect_Minimal_L1_imp
def L.batchbisect_Minimal_B (n : Int) (culprits : (List (List Int))) (K : (List Int) → Int → Int → Prop) : Prop :=
  L.batchbisect_check n culprits (fun rCode rIndex => (bif (!((rCode == 0) && ((rIndex == 0) && true))) then K ([] : List Int) rCode rIndex else L.batchbisect_Minimal_L1 n culprits ([] : List Int) (fun out => ((out.length ≠ 0 ∧ fits out.length)) ∧ K (srt out) 0 0)))
structure L.batchbisect_Minimal (n : Int) (culprits : (List (List Int))) (K : (List Int) → Int → Int → Prop) : Prop where
  out : L.batchbisect_Minimal_B n culprits K
def L.batchbisect_Minimal_ss : List Sh := [.int .i64, .ro (.slice (.int .i64))]
def L.batchbisect_Minimal_G (vs : List V) (K : V → List Ob → Prop) : Prop := L.batchbisect_Minimal (gI (vs.getD 0 .any)) (gR (.slice (.int .i64)) (vs.getD 1 .any)) (fun r0 r1 r2 => K (.tup [.vec 0, .agg [.x (.int .i64 r1), .x (.int .i64 r2)]]) [.vec (.int .i64) 0 r0])
def L.batchbisect_Minimal_S : SemF := fun args K => argF L.batchbisect_Minimal_ss args fun a => L.batchbisect_Minimal_G a K
theorem L.batchbisect_Minimal_eq (n : Int) (culprits : (List (List Int))) (K : V → List Ob → Prop) : run Try.prog L.Γ_batchbisect_Minimal L.Δ_batchbisect_Minimal (.node .leaf (.node .leaf (.node .leaf (.node (.lift L.batchbisect_Minimal_L1_d 38 L.batchbisect_Minimal_L1_F) .leaf)))) (.tup [.sl (.int .i64), .any]) Try.f11 [.x (.int .i64 n), .ro (.slice (.int .i64)) culprits] K = L.batchbisect_Minimal_B n culprits (fun r0 r1 r2 => K (.tup [.vec 0, .agg [.x (.int .i64 r1), .x (.int .i64 r2)]]) [.vec (.int .i64) 0 r0]) := by
  kernel_rfl
theorem L.batchbisect_Minimal_imp (vs : List V) (K : V → List Ob → Prop) (h : L.batchbisect_Minimal_G vs K) : run Try.prog L.Γ_batchbisect_Minimal L.Δ_batchbisect_Minimal (.node .leaf (.node .leaf (.node .leaf (.node (.lift L.batchbisect_Minimal_L1_d 38 L.batchbisect_Minimal_L1_F) .leaf)))) (.tup [.sl (.int .i64), .any]) Try.f11 (mkL L.batchbisect_Minimal_ss 0 vs) K :=
  Eq.mpr (Eq.trans (b := run Try.prog L.Γ_batchbisect_Minimal L.Δ_batchbisect_Minimal (.node .leaf (.node .leaf (.node .leaf (.node (.lift L.batchbisect_Minimal_L1_d 38 L.batchbisect_Minimal_L1_F) .leaf)))) (.tup [.sl (.int .i64), .any]) Try.f11 [.x (.int .i64 (gI (vs.getD 0 .any))), .ro (.slice (.int .i64)) (gR (.slice (.int .i64)) (vs.getD 1 .any))] K) (by kernel_rfl) (L.batchbisect_Minimal_eq (gI (vs.getD 0 .any)) (gR (.slice (.int .i64)) (vs.getD 1 .any)) K)) (L.batchbisect_Minimal.out h)
theorem L.batchbisect_Minimal_ok : SoundFn Try.prog 11 L.batchbisect_Minimal_S :=
  fn_ok (sem := run Try.prog L.Γ_batchbisect_Minimal L.Δ_batchbisect_Minimal (.node .leaf (.node .leaf (.node .leaf (.node (.lift L.batchbisect_Minimal_L1_d 38 L.batchbisect_Minimal_L1_F) .leaf)))) (.tup [.sl (.int .i64), .any]) Try.f11) (ss := L.batchbisect_Minimal_ss) (G := L.batchbisect_Minimal_G) (run_ok L.Γ_batchbisect_Minimal_ok L.Δ_batchbisect_Minimal_ok Try.func11 (ann := (.node .leaf (.node .leaf (.node .leaf (.node (.lift L.batchbisect_Minimal_L1_d 38 L.batchbisect_Minimal_L1_F) .leaf))))) ⟨(annOk_leaf _), ⟨(annOk_leaf _), ⟨(annOk_leaf _), ⟨L.batchbisect_Minimal_L1_ok, (annOk_leaf _)⟩⟩⟩⟩) L.batchbisect_Minimal_imp
/-- slices.Clone[[]int,int] -/
def L.Γ_slices_Clone : Ctx := ctxC L.Γ_batchbisect_Minimal 11 L.batchbisect_Minimal_S
theorem L.Γ_slices_Clone_ok : SoundG Try.prog L.Γ_slices_Clone := ctxC_ok L.Γ_batchbisect_Minimal_ok L.batchbisect_Minimal_ok
def L.Δ_slices_Clone : CtxO := L.Δ_batchbisect_Minimal
theorem L.Δ_slices_Clone_ok : SoundGO Try.prog L.Δ_slices_Clone := L.Δ_batchbisect_Minimal_ok
def L.slices_Clone_B (s : (List Int)) (K : (List Int) → Prop) : Prop :=
  (∀ b : Bool, (s.length ≠ 0 → b = false) → (bif b then K ([] : List Int) else (fits (([] : List Int).length + s.length)) ∧ K (([] : List Int) ++ s)))
structure L.slices_Clone (s : (List Int)) (K : (List Int) → Prop) : Prop where
  out : L.slices_Clone_B s K
def L.slices_Clone_ss : List Sh := [.ro (.int .i64)]
def L.slices_Clone_G (vs : List V) (K : V → List Ob → Prop) : Prop := L.slices_Clone (gR (.int .i64) (vs.getD 0 .any)) (fun r0 => K (.vec 0) [.vec (.int .i64) 0 r0])
def L.slices_Clone_S : SemF := fun args K => argF L.slices_Clone_ss args fun a => L.slices_Clone_G a K
theorem L.slices_Clone_eq (s : (List Int)) (K : V → List Ob → Prop) : run Try.prog L.Γ_slices_Clone L.Δ_slices_Clone .leaf (.sl (.int .i64)) Try.f31 [.ro (.int .i64) s] K = L.slices_Clone_B s (fun r0 => K (.vec 0) [.vec (.int .i64) 0 r0]) := by
  kernel_rfl
theorem L.slices_Clone_imp (vs : List V) (K : V → List Ob → Prop) (h : L.slices_Clone_G vs K) : run Try.prog L.Γ_slices_Clone L.Δ_slices_Clone .leaf (.sl (.int .i64)) Try.f31 (mkL L.slices_Clone_ss 0 vs) K :=
  Eq.mpr (Eq.trans (b := run Try.prog L.Γ_slices_Clone L.Δ_slices_Clone .leaf (.sl (.int .i64)) Try.f31 [.ro (.int .i64) (gR (.int .i64) (vs.getD 0 .any))] K) (by kernel_rfl) (L.slices_Clone_eq (gR (.int .i64) (vs.getD 0 .any)) K)) (L.slices_Clone.out h)
theorem L.slices_Clone_ok : SoundFn Try.prog 31 L.slices_Clone_S :=
  fn_ok (sem := run Try.prog L.Γ_slices_Clone L.Δ_slices_Clone .leaf (.sl (.int .i64)) Try.f31) (ss := L.slices_Clone_ss) (G := L.slices_Clone_G) (run_ok L.Γ_slices_Clone_ok L.Δ_slices_Clone_ok Try.func31 (ann := .leaf) (annOk_leaf _)) L.slices_Clone_imp
/-- changeforge/batchbisect.Greedy -/
def L.Γ_batchbisect_Greedy : Ctx := ctxC L.Γ_slices_Clone 31 L.slices_Clone_S
theorem L.Γ_batchbisect_Greedy_ok : SoundG Try.prog L.Γ_batchbisect_Greedy := ctxC_ok L.Γ_slices_Clone_ok L.slices_Clone_ok
def L.Δ_batchbisect_Greedy : CtxO := L.Δ_slices_Clone
theorem L.Δ_batchbisect_Greedy_ok : SoundGO Try.prog L.Δ_batchbisect_Greedy := L.Δ_slices_Clone_ok
def L.batchbisect_Greedy_L1_b (culprits1 : (List (List Int))) (v17 : Int) (v18 : Int) (out : (List Int)) (self : Int → (List Int) → Prop) (Kx0 : (List Int) → Prop) : Prop :=
  (bif (decide (v18 < v17)) then L.slices_Clone out (fun r => (fits (r.length + ([v18] : List Int).length)) ∧ L.batchbisect_below culprits1 (r ++ ([v18] : List Int)) 0 (fun r1 => (bif (!r1) then self (i64 (v18 + 1)) (r ++ ([v18] : List Int)) else self (i64 (v18 + 1)) out))) else Kx0 out)
def L.batchbisect_Greedy_L1_R (culprits1 : (List (List Int))) (v17 : Int) : Nat → Int → (List Int) → ((List Int) → Prop) → Prop
  | 0, _, _, _ => False
  | fu + 1, v18, out, Kx0 => L.batchbisect_Greedy_L1_b culprits1 v17 v18 out (fun v18 out => L.batchbisect_Greedy_L1_R culprits1 v17 fu v18 out Kx0) Kx0
structure L.batchbisect_Greedy_L1 (culprits1 : (List (List Int))) (v17 : Int) (v18 : Int) (out : (List Int)) (Kx0 : (List Int) → Prop) : Prop where
  out : ∃ fu, L.batchbisect_Greedy_L1_R culprits1 v17 fu v18 out Kx0
def L.batchbisect_Greedy_L1_d : LoopD := { keep := [1, 5, 17, 18], vecs := [(7, (.int .i64))], out := [5], rets := [4, 5] }
def L.batchbisect_Greedy_L1_ss : List Sh := [.ro (.slice (.int .i64)), .cl 0 0, .int .i64, .int .i64]
def L.batchbisect_Greedy_L1_os : List OSh := [.cells [.int .i64, .int .i64], .cells [.int .i64, .int .i64], .vec (.int .i64) true]
def L.batchbisect_Greedy_L1_G (vs : List V) (st : List Ob) (K : Ex → St) : Prop := L.batchbisect_Greedy_L1 (gR (.slice (.int .i64)) (vs.getD 0 .any)) (gI (vs.getD 2 .any)) (gI (vs.getD 3 .any)) (oX (.int .i64) (st.getD 2 .dead)) (fun r0 => K (.exit 0) (setVs [(7, (.int .i64))] 2 (bld [5] [.cl 0 0] 0 34)) [.cells [.x (.int .i64 (gI ((oC (st.getD 0 .dead)).getD 0 .any))), .x (.int .i64 (gI ((oC (st.getD 0 .dead)).getD 1 .any)))], .cells [.x (.int .i64 (gI ((oC (st.getD 1 .dead)).getD 0 .any))), .x (.int .i64 (gI ((oC (st.getD 1 .dead)).getD 1 .any)))], .vec (.int .i64) 0 r0])
def L.batchbisect_Greedy_L1_F (vs : List V) (st : List Ob) (K : Ex → St) : Prop := fitF L.batchbisect_Greedy_L1_ss L.batchbisect_Greedy_L1_os vs st (L.batchbisect_Greedy_L1_G vs st K)
theorem L.batchbisect_Greedy_L1_eq (culprits1 : (List (List Int))) (v17 : Int) (m0 : Int) (m01 : Int) (m1 : Int) (m11 : Int) (K : Ex → St) : ∀ (fu : Nat) (v18 : Int) (out : (List Int)), L.batchbisect_Greedy_L1_R culprits1 v17 fu v18 out (fun r0 => K (.exit 0) (setVs [(7, (.int .i64))] 2 (bld [5] [.cl 0 0] 0 34)) [.cells [.x (.int .i64 m0), .x (.int .i64 m01)], .cells [.x (.int .i64 m1), .x (.int .i64 m11)], .vec (.int .i64) 0 r0]) = iterL (stepL (exec Try.prog (CC Try.prog L.Γ_batchbisect_Greedy L.Δ_batchbisect_Greedy) (drawD Try.prog L.Γ_batchbisect_Greedy) .leaf (sub [true, true, true, false, true, false, false] (codeOf Try.f12))) 2 L.batchbisect_Greedy_L1_d K) fu (setVs L.batchbisect_Greedy_L1_d.vecs 2 (bld L.batchbisect_Greedy_L1_d.keep [.ro (.slice (.int .i64)) culprits1, .cl 0 0, .x (.int .i64 v17), .x (.int .i64 v18)] 0 34)) [.cells [.x (.int .i64 m0), .x (.int .i64 m01)], .cells [.x (.int .i64 m1), .x (.int .i64 m11)], .vec (.int .i64) 0 out] := by
  intro fu
  induction fu with
  | zero => intros; rfl
  | succ fu ih =>
    intro v18 out
    have e : (fun v18 out => L.batchbisect_Greedy_L1_R culprits1 v17 fu v18 out (fun r0 => K (.exit 0) (setVs [(7, (.int .i64))] 2 (bld [5] [.cl 0 0] 0 34)) [.cells [.x (.int .i64 m0), .x (.int .i64 m01)], .cells [.x (.int .i64 m1), .x (.int .i64 m11)], .vec (.int .i64) 0 r0])) = fun v18 out => iterL (stepL (exec Try.prog (CC Try.prog L.Γ_batchbisect_Greedy L.Δ_batchbisect_Greedy) (drawD Try.prog L.Γ_batchbisect_Greedy) .leaf (sub [true, true, true, false, true, false, false] (codeOf Try.f12))) 2 L.batchbisect_Greedy_L1_d K) fu (setVs L.batchbisect_Greedy_L1_d.vecs 2 (bld L.batchbisect_Greedy_L1_d.keep [.ro (.slice (.int .i64)) culprits1, .cl 0 0, .x (.int .i64 v17), .x (.int .i64 v18)] 0 34)) [.cells [.x (.int .i64 m0), .x (.int .i64 m01)], .cells [.x (.int .i64 m1), .x (.int .i64 m11)], .vec (.int .i64) 0 out] := by
      funext v18 out; exact ih v18 out
    show L.batchbisect_Greedy_L1_b culprits1 v17 v18 out (fun v18 out => L.batchbisect_Greedy_L1_R culprits1 v17 fu v18 out (fun r0 => K (.exit 0) (setVs [(7, (.int .i64))] 2 (bld [5] [.cl 0 0] 0 34)) [.cells [.x (.int .i64 m0), .x (.int .i64 m01)], .cells [.x (.int .i64 m1), .x (.int .i64 m11)], .vec (.int .i64) 0 r0])) (fun r0 => K (.exit 0) (setVs [(7, (.int .i64))] 2 (bld [5] [.cl 0 0] 0 34)) [.cells [.x (.int .i64 m0), .x (.int .i64 m01)], .cells [.x (.int .i64 m1), .x (.int .i64 m11)], .vec (.int .i64) 0 r0]) = _
    rw [e]
    kernel_rfl
theorem L.batchbisect_Greedy_L1_imp (vs : List V) (st : List Ob) (K : Ex → St) (h : L.batchbisect_Greedy_L1_G vs st K) : ∃ fu, iterL (stepL (exec Try.prog (CC Try.prog L.Γ_batchbisect_Greedy L.Δ_batchbisect_Greedy) (drawD Try.prog L.Γ_batchbisect_Greedy) .leaf (sub [true, true, true, false, true, false, false] (codeOf Try.f12))) 2 L.batchbisect_Greedy_L1_d K) fu (setVs L.batchbisect_Greedy_L1_d.vecs 2 (bld L.batchbisect_Greedy_L1_d.keep (mkL L.batchbisect_Greedy_L1_ss 0 vs) 0 34)) (mkOs L.batchbisect_Greedy_L1_os 0 st) :=
  exMap (fun fu h => Eq.mp (Eq.trans (L.batchbisect_Greedy_L1_eq (gR (.slice (.int .i64)) (vs.getD 0 .any)) (gI (vs.getD 2 .any)) (gI ((oC (st.getD 0 .dead)).getD 0 .any)) (gI ((oC (st.getD 0 .dead)).getD 1 .any)) (gI ((oC (st.getD 1 .dead)).getD 0 .any)) (gI ((oC (st.getD 1 .dead)).getD 1 .any)) K fu (gI (vs.getD 3 .any)) (oX (.int .i64) (st.getD 2 .dead))) (by kernel_rfl)) h) (L.batchbisect_Greedy_L1.out h)
theorem L.batchbisect_Greedy_L1_ok : AnnOk Try.prog (CC Try.prog L.Γ_batchbisect_Greedy L.Δ_batchbisect_Greedy) (drawD Try.prog L.Γ_batchbisect_Greedy) 0 (.lift L.batchbisect_Greedy_L1_d 34 L.batchbisect_Greedy_L1_F) (.loop (sub [true, true, true, false, true, false, false] (codeOf Try.f12))) :=
  lift_ok (an := .leaf) (ss := L.batchbisect_Greedy_L1_ss) (os := L.batchbisect_Greedy_L1_os) (G := L.batchbisect_Greedy_L1_G) (L0 := 2) rfl (annOk_leaf _) rfl L.batchbisect_Greedy_L1_imp
def L.batchbisect_Greedy_B (n : Int) (culprits : (List (List Int))) (K : (List Int) → Int → Int → Prop) : Prop :=
  L.batchbisect_Validate n culprits (fun rCode rIndex => (bif (!((rCode == 0) && ((rIndex == 0) && true))) then K ([] : List Int) rCode rIndex else L.batchbisect_Greedy_L1 culprits n 0 ([] : List Int) (fun out => K out 0 0)))
structure L.batchbisect_Greedy (n : Int) (culprits : (List (List Int))) (K : (List Int) → Int → Int → Prop) : Prop where
  out : L.batchbisect_Greedy_B n culprits K
def L.batchbisect_Greedy_ss : List Sh := [.int .i64, .ro (.slice (.int .i64))]
def L.batchbisect_Greedy_G (vs : List V) (K : V → List Ob → Prop) : Prop := L.batchbisect_Greedy (gI (vs.getD 0 .any)) (gR (.slice (.int .i64)) (vs.getD 1 .any)) (fun r0 r1 r2 => K (.tup [.vec 0, .agg [.x (.int .i64 r1), .x (.int .i64 r2)]]) [.vec (.int .i64) 0 r0])
def L.batchbisect_Greedy_S : SemF := fun args K => argF L.batchbisect_Greedy_ss args fun a => L.batchbisect_Greedy_G a K
theorem L.batchbisect_Greedy_eq (n : Int) (culprits : (List (List Int))) (K : V → List Ob → Prop) : run Try.prog L.Γ_batchbisect_Greedy L.Δ_batchbisect_Greedy (.node .leaf (.node .leaf (.node .leaf (.node (.node .leaf (.lift L.batchbisect_Greedy_L1_d 34 L.batchbisect_Greedy_L1_F)) .leaf)))) (.tup [.sl (.int .i64), .any]) Try.f12 [.x (.int .i64 n), .ro (.slice (.int .i64)) culprits] K = L.batchbisect_Greedy_B n culprits (fun r0 r1 r2 => K (.tup [.vec 0, .agg [.x (.int .i64 r1), .x (.int .i64 r2)]]) [.vec (.int .i64) 0 r0]) := by
  kernel_rfl
theorem L.batchbisect_Greedy_imp (vs : List V) (K : V → List Ob → Prop) (h : L.batchbisect_Greedy_G vs K) : run Try.prog L.Γ_batchbisect_Greedy L.Δ_batchbisect_Greedy (.node .leaf (.node .leaf (.node .leaf (.node (.node .leaf (.lift L.batchbisect_Greedy_L1_d 34 L.batchbisect_Greedy_L1_F)) .leaf)))) (.tup [.sl (.int .i64), .any]) Try.f12 (mkL L.batchbisect_Greedy_ss 0 vs) K :=
  Eq.mpr (Eq.trans (b := run Try.prog L.Γ_batchbisect_Greedy L.Δ_batchbisect_Greedy (.node .leaf (.node .leaf (.node .leaf (.node (.node .leaf (.lift L.batchbisect_Greedy_L1_d 34 L.batchbisect_Greedy_L1_F)) .leaf)))) (.tup [.sl (.int .i64), .any]) Try.f12 [.x (.int .i64 (gI (vs.getD 0 .any))), .ro (.slice (.int .i64)) (gR (.slice (.int .i64)) (vs.getD 1 .any))] K) (by kernel_rfl) (L.batchbisect_Greedy_eq (gI (vs.getD 0 .any)) (gR (.slice (.int .i64)) (vs.getD 1 .any)) K)) (L.batchbisect_Greedy.out h)
theorem L.batchbisect_Greedy_ok : SoundFn Try.prog 12 L.batchbisect_Greedy_S :=
  fn_ok (sem := run Try.prog L.Γ_batchbisect_Greedy L.Δ_batchbisect_Greedy (.node .leaf (.node .leaf (.node .leaf (.node (.node .leaf (.lift L.batchbisect_Greedy_L1_d 34 L.batchbisect_Greedy_L1_F)) .leaf)))) (.tup [.sl (.int .i64), .any]) Try.f12) (ss := L.batchbisect_Greedy_ss) (G := L.batchbisect_Greedy_G) (run_ok L.Γ_batchbisect_Greedy_ok L.Δ_batchbisect_Greedy_ok Try.func12 (ann := (.node .leaf (.node .leaf (.node .leaf (.node (.node .leaf (.lift L.batchbisect_Greedy_L1_d 34 L.batchbisect_Greedy_L1_F)) .leaf))))) ⟨(annOk_leaf _), ⟨(annOk_leaf _), ⟨(annOk_leaf _), ⟨⟨(annOk_leaf _), L.batchbisect_Greedy_L1_ok⟩, (annOk_leaf _)⟩⟩⟩⟩) L.batchbisect_Greedy_imp
/-- changeforge/changeforgeref8.EqualInts -/
def L.Γ_ref8_EqualInts : Ctx := ctxC L.Γ_batchbisect_Greedy 12 L.batchbisect_Greedy_S
theorem L.Γ_ref8_EqualInts_ok : SoundG Try.prog L.Γ_ref8_EqualInts := ctxC_ok L.Γ_batchbisect_Greedy_ok L.batchbisect_Greedy_ok
def L.Δ_ref8_EqualInts : CtxO := L.Δ_batchbisect_Greedy
theorem L.Δ_ref8_EqualInts_ok : SoundGO Try.prog L.Δ_ref8_EqualInts := L.Δ_batchbisect_Greedy_ok
def L.ref8_EqualInts_L1_b (a1 : (List Int)) (b1 : (List Int)) (i_ : Int) (self : Int → Prop) (Kx0 : Prop) (Kr : Bool → Prop) : Prop :=
  (bif (decide (i_ < (a1.length : Int))) then (inB i_ a1.length) ∧ (inB i_ b1.length) ∧ (bif ((a1.getD i_.toNat 0) != (b1.getD i_.toNat 0)) then Kr false else self (i64 (i_ + 1))) else Kx0)
def L.ref8_EqualInts_L1_R (a1 : (List Int)) (b1 : (List Int)) : Nat → Int → (Prop) → (Bool → Prop) → Prop
  | 0, _, _, _ => False
  | fu + 1, i_, Kx0, Kr => L.ref8_EqualInts_L1_b a1 b1 i_ (fun i_ => L.ref8_EqualInts_L1_R a1 b1 fu i_ Kx0 Kr) Kx0 Kr
structure L.ref8_EqualInts_L1 (a1 : (List Int)) (b1 : (List Int)) (i_ : Int) (Kx0 : Prop) (Kr : Bool → Prop) : Prop where
  out : ∃ fu, L.ref8_EqualInts_L1_R a1 b1 fu i_ Kx0 Kr
def L.ref8_EqualInts_L1_d : LoopD := { keep := [0, 1, 5], vecs := [], out := [], rets := [4] }
def L.ref8_EqualInts_L1_ss : List Sh := [.ro (.int .i64), .ro (.int .i64), .int .i64]
def L.ref8_EqualInts_L1_os : List OSh := []
def L.ref8_EqualInts_L1_G (vs : List V) (st : List Ob) (K : Ex → St) : Prop := L.ref8_EqualInts_L1 (gR (.int .i64) (vs.getD 0 .any)) (gR (.int .i64) (vs.getD 1 .any)) (gI (vs.getD 2 .any)) (K (.exit 0) (setVs [] 0 (bld [] [] 0 26)) []) (fun r0 => K .ret (bld [4] [.x (.bool r0)] 0 26) [])
def L.ref8_EqualInts_L1_F (vs : List V) (st : List Ob) (K : Ex → St) : Prop := fitF L.ref8_EqualInts_L1_ss L.ref8_EqualInts_L1_os vs st (L.ref8_EqualInts_L1_G vs st K)
theorem L.ref8_EqualInts_L1_eq (a1 : (List Int)) (b1 : (List Int)) (K : Ex → St) : ∀ (fu : Nat) (i_ : Int), L.ref8_EqualInts_L1_R a1 b1 fu i_ (K (.exit 0) (setVs [] 0 (bld [] [] 0 26)) []) (fun r0 => K .ret (bld [4] [.x (.bool r0)] 0 26) []) = iterL (stepL (exec Try.prog (CC Try.prog L.Γ_ref8_EqualInts L.Δ_ref8_EqualInts) (drawD Try.prog L.Γ_ref8_EqualInts) .leaf (sub [true, true, false, true, false, false] (codeOf Try.f19))) 0 L.ref8_EqualInts_L1_d K) fu (setVs L.ref8_EqualInts_L1_d.vecs 0 (bld L.ref8_EqualInts_L1_d.keep [.ro (.int .i64) a1, .ro (.int .i64) b1, .x (.int .i64 i_)] 0 26)) [] := by
  intro fu
  induction fu with
  | zero => intros; rfl
  | succ fu ih =>
    intro i_
    have e : (fun i_ => L.ref8_EqualInts_L1_R a1 b1 fu i_ (K (.exit 0) (setVs [] 0 (bld [] [] 0 26)) []) (fun r0 => K .ret (bld [4] [.x (.bool r0)] 0 26) [])) = fun i_ => iterL (stepL (exec Try.prog (CC Try.prog L.Γ_ref8_EqualInts L.Δ_ref8_EqualInts) (drawD Try.prog L.Γ_ref8_EqualInts) .leaf (sub [true, true, false, true, false, false] (codeOf Try.f19))) 0 L.ref8_EqualInts_L1_d K) fu (setVs L.ref8_EqualInts_L1_d.vecs 0 (bld L.ref8_EqualInts_L1_d.keep [.ro (.int .i64) a1, .ro (.int .i64) b1, .x (.int .i64 i_)] 0 26)) [] := by
      funext i_; exact ih i_
    show L.ref8_EqualInts_L1_b a1 b1 i_ (fun i_ => L.ref8_EqualInts_L1_R a1 b1 fu i_ (K (.exit 0) (setVs [] 0 (bld [] [] 0 26)) []) (fun r0 => K .ret (bld [4] [.x (.bool r0)] 0 26) [])) (K (.exit 0) (setVs [] 0 (bld [] [] 0 26)) []) (fun r0 => K .ret (bld [4] [.x (.bool r0)] 0 26) []) = _
    rw [e]
    kernel_rfl
theorem L.ref8_EqualInts_L1_imp (vs : List V) (st : List Ob) (K : Ex → St) (h : L.ref8_EqualInts_L1_G vs st K) : ∃ fu, iterL (stepL (exec Try.prog (CC Try.prog L.Γ_ref8_EqualInts L.Δ_ref8_EqualInts) (drawD Try.prog L.Γ_ref8_EqualInts) .leaf (sub [true, true, false, true, false, false] (codeOf Try.f19))) 0 L.ref8_EqualInts_L1_d K) fu (setVs L.ref8_EqualInts_L1_d.vecs 0 (bld L.ref8_EqualInts_L1_d.keep (mkL L.ref8_EqualInts_L1_ss 0 vs) 0 26)) (mkOs L.ref8_EqualInts_L1_os 0 st) :=
  exMap (fun fu h => Eq.mp (Eq.trans (L.ref8_EqualInts_L1_eq (gR (.int .i64) (vs.getD 0 .any)) (gR (.int .i64) (vs.getD 1 .any)) K fu (gI (vs.getD 2 .any))) (by kernel_rfl)) h) (L.ref8_EqualInts_L1.out h)
theorem L.ref8_EqualInts_L1_ok : AnnOk Try.prog (CC Try.prog L.Γ_ref8_EqualInts L.Δ_ref8_EqualInts) (drawD Try.prog L.Γ_ref8_EqualInts) 0 (.lift L.ref8_EqualInts_L1_d 26 L.ref8_EqualInts_L1_F) (.loop (sub [true, true, false, true, false, false] (codeOf Try.f19))) :=
  lift_ok (an := .leaf) (ss := L.ref8_EqualInts_L1_ss) (os := L.ref8_EqualInts_L1_os) (G := L.ref8_EqualInts_L1_G) (L0 := 0) rfl (annOk_leaf _) rfl L.ref8_EqualInts_L1_imp
def L.ref8_EqualInts_B (a : (List Int)) (b : (List Int)) (K : Bool → Prop) : Prop :=
  (bif ((a.length : Int) != (b.length : Int)) then K false else L.ref8_EqualInts_L1 a b 0 (K true) (fun r => K r))
structure L.ref8_EqualInts (a : (List Int)) (b : (List Int)) (K : Bool → Prop) : Prop where
  out : L.ref8_EqualInts_B a b K
def L.ref8_EqualInts_ss : List Sh := [.ro (.int .i64), .ro (.int .i64)]
def L.ref8_EqualInts_G (vs : List V) (K : V → List Ob → Prop) : Prop := L.ref8_EqualInts (gR (.int .i64) (vs.getD 0 .any)) (gR (.int .i64) (vs.getD 1 .any)) (fun r0 => K (.x (.bool r0)) [])
def L.ref8_EqualInts_S : SemF := fun args K => argF L.ref8_EqualInts_ss args fun a => L.ref8_EqualInts_G a K
theorem L.ref8_EqualInts_eq (a : (List Int)) (b : (List Int)) (K : V → List Ob → Prop) : run Try.prog L.Γ_ref8_EqualInts L.Δ_ref8_EqualInts (.node .leaf (.node .leaf (.node (.node .leaf (.lift L.ref8_EqualInts_L1_d 26 L.ref8_EqualInts_L1_F)) .leaf))) .any Try.f19 [.ro (.int .i64) a, .ro (.int .i64) b] K = L.ref8_EqualInts_B a b (fun r0 => K (.x (.bool r0)) []) := by
  kernel_rfl
theorem L.ref8_EqualInts_imp (vs : List V) (K : V → List Ob → Prop) (h : L.ref8_EqualInts_G vs K) : run Try.prog L.Γ_ref8_EqualInts L.Δ_ref8_EqualInts (.node .leaf (.node .leaf (.node (.node .leaf (.lift L.ref8_EqualInts_L1_d 26 L.ref8_EqualInts_L1_F)) .leaf))) .any Try.f19 (mkL L.ref8_EqualInts_ss 0 vs) K :=
  Eq.mpr (Eq.trans (b := run Try.prog L.Γ_ref8_EqualInts L.Δ_ref8_EqualInts (.node .leaf (.node .leaf (.node (.node .leaf (.lift L.ref8_EqualInts_L1_d 26 L.ref8_EqualInts_L1_F)) .leaf))) .any Try.f19 [.ro (.int .i64) (gR (.int .i64) (vs.getD 0 .any)), .ro (.int .i64) (gR (.int .i64) (vs.getD 1 .any))] K) (by kernel_rfl) (L.ref8_EqualInts_eq (gR (.int .i64) (vs.getD 0 .any)) (gR (.int .i64) (vs.getD 1 .any)) K)) (L.ref8_EqualInts.out h)
theorem L.ref8_EqualInts_ok : SoundFn Try.prog 19 L.ref8_EqualInts_S :=
  fn_ok (sem := run Try.prog L.Γ_ref8_EqualInts L.Δ_ref8_EqualInts (.node .leaf (.node .leaf (.node (.node .leaf (.lift L.ref8_EqualInts_L1_d 26 L.ref8_EqualInts_L1_F)) .leaf))) .any Try.f19) (ss := L.ref8_EqualInts_ss) (G := L.ref8_EqualInts_G) (run_ok L.Γ_ref8_EqualInts_ok L.Δ_ref8_EqualInts_ok Try.func19 (ann := (.node .leaf (.node .leaf (.node (.node .leaf (.lift L.ref8_EqualInts_L1_d 26 L.ref8_EqualInts_L1_F)) .leaf)))) ⟨(annOk_leaf _), ⟨(annOk_leaf _), ⟨⟨(annOk_leaf _), L.ref8_EqualInts_L1_ok⟩, (annOk_leaf _)⟩⟩⟩) L.ref8_EqualInts_imp
/-- changeforge/changeforgelaw8.bisectExample -/
def L.Γ_law8_bisectExample : Ctx := ctxC L.Γ_ref8_EqualInts 19 L.ref8_EqualInts_S
theorem L.Γ_law8_bisectExample_ok : SoundG Try.prog L.Γ_law8_bisectExample := ctxC_ok L.Γ_ref8_EqualInts_ok L.ref8_EqualInts_ok
def L.Δ_law8_bisectExample : CtxO := L.Δ_ref8_EqualInts
theorem L.Δ_law8_bisectExample_ok : SoundGO Try.prog L.Δ_law8_bisectExample := L.Δ_ref8_EqualInts_ok
def L.law8_bisectExample_B (K : Bool → Prop) : Prop :=
  L.batchbisect_First 4 ([([2] : List Int)] : List (List Int)) (fun r r1 rCode rIndex => L.batchbisect_Minimal 4 ([([0, 3] : List Int), ([1, 2] : List Int)] : List (List Int)) (fun r2 rCode1 rIndex1 => L.batchbisect_Greedy 3 ([([0, 1] : List Int)] : List (List Int)) (fun r3 rCode2 rIndex2 => L.batchbisect_Fails 3 ([([1, 2] : List Int)] : List (List Int)) ([0, 1, 2] : List Int) (fun r4 rCode3 rIndex3 => (bif (bif (bif (bif (bif (bif (r == 2) then (rCode == 0) else false) then (rCode1 == 0) else false) then (rCode2 == 0) else false) then (rCode3 == 0) else false) then r4 else false) then L.ref8_EqualInts r1 ([4, 2, 3] : List Int) (fun r5 => (bif (bif true then r5 else false) then L.ref8_EqualInts r2 ([1, 2] : List Int) (fun r6 => (bif (bif true then r6 else false) then L.ref8_EqualInts r3 ([0, 2] : List Int) (fun r7 => K (bif true then r7 else false)) else K false)) else K false)) else K false)))))
structure L.law8_bisectExample (K : Bool → Prop) : Prop where
  out : L.law8_bisectExample_B K
def L.law8_bisectExample_ss : List Sh := []
def L.law8_bisectExample_G (vs : List V) (K : V → List Ob → Prop) : Prop := L.law8_bisectExample (fun r0 => K (.x (.bool r0)) [])
def L.law8_bisectExample_S : SemF := fun args K => argF L.law8_bisectExample_ss args fun a => L.law8_bisectExample_G a K
theorem L.law8_bisectExample_eq (K : V → List Ob → Prop) : run Try.prog L.Γ_law8_bisectExample L.Δ_law8_bisectExample .leaf .any Try.f13 [] K = L.law8_bisectExample_B (fun r0 => K (.x (.bool r0)) []) := by
  kernel_rfl
theorem L.law8_bisectExample_imp (vs : List V) (K : V → List Ob → Prop) (h : L.law8_bisectExample_G vs K) : run Try.prog L.Γ_law8_bisectExample L.Δ_law8_bisectExample .leaf .any Try.f13 (mkL L.law8_bisectExample_ss 0 vs) K :=
  Eq.mpr (Eq.trans (b := run Try.prog L.Γ_law8_bisectExample L.Δ_law8_bisectExample .leaf .any Try.f13 [] K) (by kernel_rfl) (L.law8_bisectExample_eq K)) (L.law8_bisectExample.out h)
theorem L.law8_bisectExample_ok : SoundFn Try.prog 13 L.law8_bisectExample_S :=
  fn_ok (sem := run Try.prog L.Γ_law8_bisectExample L.Δ_law8_bisectExample .leaf .any Try.f13) (ss := L.law8_bisectExample_ss) (G := L.law8_bisectExample_G) (run_ok L.Γ_law8_bisectExample_ok L.Δ_law8_bisectExample_ok Try.func13 (ann := .leaf) (annOk_leaf _)) L.law8_bisectExample_imp
/-- changeforge/changeforgeref8.Has -/
def L.Γ_ref8_Has : Ctx := ctxC L.Γ_law8_bisectExample 13 L.law8_bisectExample_S
theorem L.Γ_ref8_Has_ok : SoundG Try.prog L.Γ_ref8_Has := ctxC_ok L.Γ_law8_bisectExample_ok L.law8_bisectExample_ok
def L.Δ_ref8_Has : CtxO := L.Δ_law8_bisectExample
theorem L.Δ_ref8_Has_ok : SoundGO Try.prog L.Δ_ref8_Has := L.Δ_law8_bisectExample_ok
def L.ref8_Has_L1_b (l1 : (List Int)) (n1 : Int) (i_ : Int) (self : Int → Prop) (Kx0 : Prop) (Kr : Bool → Prop) : Prop :=
  (bif (decide (i_ < (l1.length : Int))) then (inB i_ l1.length) ∧ (bif ((l1.getD i_.toNat 0) == n1) then Kr true else self (i64 (i_ + 1))) else Kx0)
def L.ref8_Has_L1_R (l1 : (List Int)) (n1 : Int) : Nat → Int → (Prop) → (Bool → Prop) → Prop
  | 0, _, _, _ => False
  | fu + 1, i_, Kx0, Kr => L.ref8_Has_L1_b l1 n1 i_ (fun i_ => L.ref8_Has_L1_R l1 n1 fu i_ Kx0 Kr) Kx0 Kr
structure L.ref8_Has_L1 (l1 : (List Int)) (n1 : Int) (i_ : Int) (Kx0 : Prop) (Kr : Bool → Prop) : Prop where
  out : ∃ fu, L.ref8_Has_L1_R l1 n1 fu i_ Kx0 Kr
def L.ref8_Has_L1_d : LoopD := { keep := [0, 1, 5], vecs := [], out := [], rets := [4] }
def L.ref8_Has_L1_ss : List Sh := [.ro (.int .i64), .int .i64, .int .i64]
def L.ref8_Has_L1_os : List OSh := []
def L.ref8_Has_L1_G (vs : List V) (st : List Ob) (K : Ex → St) : Prop := L.ref8_Has_L1 (gR (.int .i64) (vs.getD 0 .any)) (gI (vs.getD 1 .any)) (gI (vs.getD 2 .any)) (K (.exit 0) (setVs [] 0 (bld [] [] 0 18)) []) (fun r0 => K .ret (bld [4] [.x (.bool r0)] 0 18) [])
def L.ref8_Has_L1_F (vs : List V) (st : List Ob) (K : Ex → St) : Prop := fitF L.ref8_Has_L1_ss L.ref8_Has_L1_os vs st (L.ref8_Has_L1_G vs st K)
theorem L.ref8_Has_L1_eq (l1 : (List Int)) (n1 : Int) (K : Ex → St) : ∀ (fu : Nat) (i_ : Int), L.ref8_Has_L1_R l1 n1 fu i_ (K (.exit 0) (setVs [] 0 (bld [] [] 0 18)) []) (fun r0 => K .ret (bld [4] [.x (.bool r0)] 0 18) []) = iterL (stepL (exec Try.prog (CC Try.prog L.Γ_ref8_Has L.Δ_ref8_Has) (drawD Try.prog L.Γ_ref8_Has) .leaf (sub [true, false, true, false, false] (codeOf Try.f23))) 0 L.ref8_Has_L1_d K) fu (setVs L.ref8_Has_L1_d.vecs 0 (bld L.ref8_Has_L1_d.keep [.ro (.int .i64) l1, .x (.int .i64 n1), .x (.int .i64 i_)] 0 18)) [] := by
  intro fu
  induction fu with
  | zero => intros; rfl
  | succ fu ih =>
    intro i_
    have e : (fun i_ => L.ref8_Has_L1_R l1 n1 fu i_ (K (.exit 0) (setVs [] 0 (bld [] [] 0 18)) []) (fun r0 => K .ret (bld [4] [.x (.bool r0)] 0 18) [])) = fun i_ => iterL (stepL (exec Try.prog (CC Try.prog L.Γ_ref8_Has L.Δ_ref8_Has) (drawD Try.prog L.Γ_ref8_Has) .leaf (sub [true, false, true, false, false] (codeOf Try.f23))) 0 L.ref8_Has_L1_d K) fu (setVs L.ref8_Has_L1_d.vecs 0 (bld L.ref8_Has_L1_d.keep [.ro (.int .i64) l1, .x (.int .i64 n1), .x (.int .i64 i_)] 0 18)) [] := by
      funext i_; exact ih i_
    show L.ref8_Has_L1_b l1 n1 i_ (fun i_ => L.ref8_Has_L1_R l1 n1 fu i_ (K (.exit 0) (setVs [] 0 (bld [] [] 0 18)) []) (fun r0 => K .ret (bld [4] [.x (.bool r0)] 0 18) [])) (K (.exit 0) (setVs [] 0 (bld [] [] 0 18)) []) (fun r0 => K .ret (bld [4] [.x (.bool r0)] 0 18) []) = _
    rw [e]
    kernel_rfl
theorem L.ref8_Has_L1_imp (vs : List V) (st : List Ob) (K : Ex → St) (h : L.ref8_Has_L1_G vs st K) : ∃ fu, iterL (stepL (exec Try.prog (CC Try.prog L.Γ_ref8_Has L.Δ_ref8_Has) (drawD Try.prog L.Γ_ref8_Has) .leaf (sub [true, false, true, false, false] (codeOf Try.f23))) 0 L.ref8_Has_L1_d K) fu (setVs L.ref8_Has_L1_d.vecs 0 (bld L.ref8_Has_L1_d.keep (mkL L.ref8_Has_L1_ss 0 vs) 0 18)) (mkOs L.ref8_Has_L1_os 0 st) :=
  exMap (fun fu h => Eq.mp (Eq.trans (L.ref8_Has_L1_eq (gR (.int .i64) (vs.getD 0 .any)) (gI (vs.getD 1 .any)) K fu (gI (vs.getD 2 .any))) (by kernel_rfl)) h) (L.ref8_Has_L1.out h)
theorem L.ref8_Has_L1_ok : AnnOk Try.prog (CC Try.prog L.Γ_ref8_Has L.Δ_ref8_Has) (drawD Try.prog L.Γ_ref8_Has) 0 (.lift L.ref8_Has_L1_d 18 L.ref8_Has_L1_F) (.loop (sub [true, false, true, false, false] (codeOf Try.f23))) :=
  lift_ok (an := .leaf) (ss := L.ref8_Has_L1_ss) (os := L.ref8_Has_L1_os) (G := L.ref8_Has_L1_G) (L0 := 0) rfl (annOk_leaf _) rfl L.ref8_Has_L1_imp
def L.ref8_Has_B (l : (List Int)) (n : Int) (K : Bool → Prop) : Prop :=
  L.ref8_Has_L1 l n 0 (K false) (fun r => K r)
structure L.ref8_Has (l : (List Int)) (n : Int) (K : Bool → Prop) : Prop where
  out : L.ref8_Has_B l n K
def L.ref8_Has_ss : List Sh := [.ro (.int .i64), .int .i64]
def L.ref8_Has_G (vs : List V) (K : V → List Ob → Prop) : Prop := L.ref8_Has (gR (.int .i64) (vs.getD 0 .any)) (gI (vs.getD 1 .any)) (fun r0 => K (.x (.bool r0)) [])
def L.ref8_Has_S : SemF := fun args K => argF L.ref8_Has_ss args fun a => L.ref8_Has_G a K
theorem L.ref8_Has_eq (l : (List Int)) (n : Int) (K : V → List Ob → Prop) : run Try.prog L.Γ_ref8_Has L.Δ_ref8_Has (.node .leaf (.node (.node .leaf (.lift L.ref8_Has_L1_d 18 L.ref8_Has_L1_F)) .leaf)) .any Try.f23 [.ro (.int .i64) l, .x (.int .i64 n)] K = L.ref8_Has_B l n (fun r0 => K (.x (.bool r0)) []) := by
  kernel_rfl
theorem L.ref8_Has_imp (vs : List V) (K : V → List Ob → Prop) (h : L.ref8_Has_G vs K) : run Try.prog L.Γ_ref8_Has L.Δ_ref8_Has (.node .leaf (.node (.node .leaf (.lift L.ref8_Has_L1_d 18 L.ref8_Has_L1_F)) .leaf)) .any Try.f23 (mkL L.ref8_Has_ss 0 vs) K :=
  Eq.mpr (Eq.trans (b := run Try.prog L.Γ_ref8_Has L.Δ_ref8_Has (.node .leaf (.node (.node .leaf (.lift L.ref8_Has_L1_d 18 L.ref8_Has_L1_F)) .leaf)) .any Try.f23 [.ro (.int .i64) (gR (.int .i64) (vs.getD 0 .any)), .x (.int .i64 (gI (vs.getD 1 .any)))] K) (by kernel_rfl) (L.ref8_Has_eq (gR (.int .i64) (vs.getD 0 .any)) (gI (vs.getD 1 .any)) K)) (L.ref8_Has.out h)
theorem L.ref8_Has_ok : SoundFn Try.prog 23 L.ref8_Has_S :=
  fn_ok (sem := run Try.prog L.Γ_ref8_Has L.Δ_ref8_Has (.node .leaf (.node (.node .leaf (.lift L.ref8_Has_L1_d 18 L.ref8_Has_L1_F)) .leaf)) .any Try.f23) (ss := L.ref8_Has_ss) (G := L.ref8_Has_G) (run_ok L.Γ_ref8_Has_ok L.Δ_ref8_Has_ok Try.func23 (ann := (.node .leaf (.node (.node .leaf (.lift L.ref8_Has_L1_d 18 L.ref8_Has_L1_F)) .leaf))) ⟨(annOk_leaf _), ⟨⟨(annOk_leaf _), L.ref8_Has_L1_ok⟩, (annOk_leaf _)⟩⟩) L.ref8_Has_imp
/-- changeforge/changeforgeref8.Failing -/
def L.Γ_ref8_Failing : Ctx := ctxC L.Γ_ref8_Has 23 L.ref8_Has_S
theorem L.Γ_ref8_Failing_ok : SoundG Try.prog L.Γ_ref8_Failing := ctxC_ok L.Γ_ref8_Has_ok L.ref8_Has_ok
def L.Δ_ref8_Failing : CtxO := L.Δ_ref8_Has
theorem L.Δ_ref8_Failing_ok : SoundGO Try.prog L.Δ_ref8_Failing := L.Δ_ref8_Has_ok
def L.ref8_Failing_L2_b (culprits2 : (List (List Int))) (set2 : (List Int)) (i_1 : Int) (missing : Int) (k : Int) (self : Int → Int → Prop) (Kx2 : Int → Prop) : Prop :=
  (inB i_1 culprits2.length) ∧ (bif (decide (k < ((culprits2.getD i_1.toNat []).length : Int))) then (inB i_1 culprits2.length) ∧ (inB k (culprits2.getD i_1.toNat []).length) ∧ L.ref8_Has set2 ((culprits2.getD i_1.toNat []).getD k.toNat 0) (fun r => (bif (!r) then self (i64 (missing + 1)) (i64 (k + 1)) else self missing (i64 (k + 1)))) else Kx2 missing)
def L.ref8_Failing_L2_R (culprits2 : (List (List Int))) (set2 : (List Int)) (i_1 : Int) : Nat → Int → Int → (Int → Prop) → Prop
  | 0, _, _, _ => False
  | fu + 1, missing, k, Kx2 => L.ref8_Failing_L2_b culprits2 set2 i_1 missing k (fun missing k => L.ref8_Failing_L2_R culprits2 set2 i_1 fu missing k Kx2) Kx2
structure L.ref8_Failing_L2 (culprits2 : (List (List Int))) (set2 : (List Int)) (i_1 : Int) (missing : Int) (k : Int) (Kx2 : Int → Prop) : Prop where
  out : ∃ fu, L.ref8_Failing_L2_R culprits2 set2 i_1 fu missing k Kx2
def L.ref8_Failing_L2_d : LoopD := { keep := [0, 1, 5, 6, 7], vecs := [], out := [0, 1, 5, 6], rets := [4] }
def L.ref8_Failing_L2_ss : List Sh := [.ro (.slice (.int .i64)), .ro (.int .i64), .int .i64, .int .i64, .int .i64]
def L.ref8_Failing_L2_os : List OSh := []
def L.ref8_Failing_L2_G (vs : List V) (st : List Ob) (K : Ex → St) : Prop := L.ref8_Failing_L2 (gR (.slice (.int .i64)) (vs.getD 0 .any)) (gR (.int .i64) (vs.getD 1 .any)) (gI (vs.getD 2 .any)) (gI (vs.getD 3 .any)) (gI (vs.getD 4 .any)) (fun r0 => K (.exit 2) (setVs [] 0 (bld [0, 1, 5, 6] [.ro (.slice (.int .i64)) (gR (.slice (.int .i64)) (vs.getD 0 .any)), .ro (.int .i64) (gR (.int .i64) (vs.getD 1 .any)), .x (.int .i64 (gI (vs.getD 2 .any))), .x (.int .i64 r0)] 0 37)) [])
def L.ref8_Failing_L2_F (vs : List V) (st : List Ob) (K : Ex → St) : Prop := fitF L.ref8_Failing_L2_ss L.ref8_Failing_L2_os vs st (L.ref8_Failing_L2_G vs st K)
theorem L.ref8_Failing_L2_eq (culprits2 : (List (List Int))) (set2 : (List Int)) (i_1 : Int) (K : Ex → St) : ∀ (fu : Nat) (missing : Int) (k : Int), L.ref8_Failing_L2_R culprits2 set2 i_1 fu missing k (fun r0 => K (.exit 2) (setVs [] 0 (bld [0, 1, 5, 6] [.ro (.slice (.int .i64)) culprits2, .ro (.int .i64) set2, .x (.int .i64 i_1), .x (.int .i64 r0)] 0 37)) []) = iterL (stepL (exec Try.prog (CC Try.prog L.Γ_ref8_Failing L.Δ_ref8_Failing) (drawD Try.prog L.Γ_ref8_Failing) .leaf (sub [true, false, true, false, false, true, false, false, true, false, true, false, false] (codeOf Try.f17))) 0 L.ref8_Failing_L2_d K) fu (setVs L.ref8_Failing_L2_d.vecs 0 (bld L.ref8_Failing_L2_d.keep [.ro (.slice (.int .i64)) culprits2, .ro (.int .i64) set2, .x (.int .i64 i_1), .x (.int .i64 missing), .x (.int .i64 k)] 0 37)) [] := by
  intro fu
  induction fu with
  | zero => intros; rfl
  | succ fu ih =>
    intro missing k
    have e : (fun missing k => L.ref8_Failing_L2_R culprits2 set2 i_1 fu missing k (fun r0 => K (.exit 2) (setVs [] 0 (bld [0, 1, 5, 6] [.ro (.slice (.int .i64)) culprits2, .ro (.int .i64) set2, .x (.int .i64 i_1), .x (.int .i64 r0)] 0 37)) [])) = fun missing k => iterL (stepL (exec Try.prog (CC Try.prog L.Γ_ref8_Failing L.Δ_ref8_Failing) (drawD Try.prog L.Γ_ref8_Failing) .leaf (sub [true, false, true, false, false, true, false, false, true, false, true, false, false] (codeOf Try.f17))) 0 L.ref8_Failing_L2_d K) fu (setVs L.ref8_Failing_L2_d.vecs 0 (bld L.ref8_Failing_L2_d.keep [.ro (.slice (.int .i64)) culprits2, .ro (.int .i64) set2, .x (.int .i64 i_1), .x (.int .i64 missing), .x (.int .i64 k)] 0 37)) [] := by
      funext missing k; exact ih missing k
    show L.ref8_Failing_L2_b culprits2 set2 i_1 missing k (fun missing k => L.ref8_Failing_L2_R culprits2 set2 i_1 fu missing k (fun r0 => K (.exit 2) (setVs [] 0 (bld [0, 1, 5, 6] [.ro (.slice (.int .i64)) culprits2, .ro (.int .i64) set2, .x (.int .i64 i_1), .x (.int .i64 r0)] 0 37)) [])) (fun r0 => K (.exit 2) (setVs [] 0 (bld [0, 1, 5, 6] [.ro (.slice (.int .i64)) culprits2, .ro (.int .i64) set2, .x (.int .i64 i_1), .x (.int .i64 r0)] 0 37)) []) = _
    rw [e]
    kernel_rfl
theorem L.ref8_Failing_L2_imp (vs : List V) (st : List Ob) (K : Ex → St) (h : L.ref8_Failing_L2_G vs st K) : ∃ fu, iterL (stepL (exec Try.prog (CC Try.prog L.Γ_ref8_Failing L.Δ_ref8_Failing) (drawD Try.prog L.Γ_ref8_Failing) .leaf (sub [true, false, true, false, false, true, false, false, true, false, true, false, false] (codeOf Try.f17))) 0 L.ref8_Failing_L2_d K) fu (setVs L.ref8_Failing_L2_d.vecs 0 (bld L.ref8_Failing_L2_d.keep (mkL L.ref8_Failing_L2_ss 0 vs) 0 37)) (mkOs L.ref8_Failing_L2_os 0 st) :=
  exMap (fun fu h => Eq.mp (Eq.trans (L.ref8_Failing_L2_eq (gR (.slice (.int .i64)) (vs.getD 0 .any)) (gR (.int .i64) (vs.getD 1 .any)) (gI (vs.getD 2 .any)) K fu (gI (vs.getD 3 .any)) (gI (vs.getD 4 .any))) (by kernel_rfl)) h) (L.ref8_Failing_L2.out h)
theorem L.ref8_Failing_L2_ok : AnnOk Try.prog (CC Try.prog L.Γ_ref8_Failing L.Δ_ref8_Failing) (drawD Try.prog L.Γ_ref8_Failing) 0 (.lift L.ref8_Failing_L2_d 37 L.ref8_Failing_L2_F) (.loop (sub [true, false, true, false, false, true, false, false, true, false, true, false, false] (codeOf Try.f17))) :=
  lift_ok (an := .leaf) (ss := L.ref8_Failing_L2_ss) (os := L.ref8_Failing_L2_os) (G := L.ref8_Failing_L2_G) (L0 := 0) rfl (annOk_leaf _) rfl L.ref8_Failing_L2_imp
def L.ref8_Failing_L1_b (culprits1 : (List (List Int))) (set1 : (List Int)) (i_ : Int) (self : Int → Prop) (Kx0 : Prop) (Kr : Bool → Prop) : Prop :=
  (bif (decide (i_ < (culprits1.length : Int))) then L.ref8_Failing_L2 culprits1 set1 i_ 0 0 (fun missing => (bif (missing == 0) then Kr true else self (i64 (i_ + 1)))) else Kx0)
def L.ref8_Failing_L1_R (culprits1 : (List (List Int))) (set1 : (List Int)) : Nat → Int → (Prop) → (Bool → Prop) → Prop
  | 0, _, _, _ => False
  | fu + 1, i_, Kx0, Kr => L.ref8_Failing_L1_b culprits1 set1 i_ (fun i_ => L.ref8_Failing_L1_R culprits1 set1 fu i_ Kx0 Kr) Kx0 Kr
structure L.ref8_Failing_L1 (culprits1 : (List (List Int))) (set1 : (List Int)) (i_ : Int) (Kx0 : Prop) (Kr : Bool → Prop) : Prop where
  out : ∃ fu, L.ref8_Failing_L1_R culprits1 set1 fu i_ Kx0 Kr
def L.ref8_Failing_L1_d : LoopD := { keep := [0, 1, 5], vecs := [], out := [], rets := [4] }
def L.ref8_Failing_L1_ss : List Sh := [.ro (.slice (.int .i64)), .ro (.int .i64), .int .i64]
def L.ref8_Failing_L1_os : List OSh := []
def L.ref8_Failing_L1_G (vs : List V) (st : List Ob) (K : Ex → St) : Prop := L.ref8_Failing_L1 (gR (.slice (.int .i64)) (vs.getD 0 .any)) (gR (.int .i64) (vs.getD 1 .any)) (gI (vs.getD 2 .any)) (K (.exit 0) (setVs [] 0 (bld [] [] 0 37)) []) (fun r0 => K .ret (bld [4] [.x (.bool r0)] 0 37) [])
def L.ref8_Failing_L1_F (vs : List V) (st : List Ob) (K : Ex → St) : Prop := fitF L.ref8_Failing_L1_ss L.ref8_Failing_L1_os vs st (L.ref8_Failing_L1_G vs st K)
theorem L.ref8_Failing_L1_eq (culprits1 : (List (List Int))) (set1 : (List Int)) (K : Ex → St) : ∀ (fu : Nat) (i_ : Int), L.ref8_Failing_L1_R culprits1 set1 fu i_ (K (.exit 0) (setVs [] 0 (bld [] [] 0 37)) []) (fun r0 => K .ret (bld [4] [.x (.bool r0)] 0 37) []) = iterL (stepL (exec Try.prog (CC Try.prog L.Γ_ref8_Failing L.Δ_ref8_Failing) (drawD Try.prog L.Γ_ref8_Failing) (.node .leaf (.node (.node .leaf (.node (.node .leaf (.lift L.ref8_Failing_L2_d 37 L.ref8_Failing_L2_F)) .leaf)) .leaf)) (sub [true, false, true, false, false] (codeOf Try.f17))) 0 L.ref8_Failing_L1_d K) fu (setVs L.ref8_Failing_L1_d.vecs 0 (bld L.ref8_Failing_L1_d.keep [.ro (.slice (.int .i64)) culprits1, .ro (.int .i64) set1, .x (.int .i64 i_)] 0 37)) [] := by
  intro fu
  induction fu with
  | zero => intros; rfl
  | succ fu ih =>
    intro i_
    have e : (fun i_ => L.ref8_Failing_L1_R culprits1 set1 fu i_ (K (.exit 0) (setVs [] 0 (bld [] [] 0 37)) []) (fun r0 => K .ret (bld [4] [.x (.bool r0)] 0 37) [])) = fun i_ => iterL (stepL (exec Try.prog (CC Try.prog L.Γ_ref8_Failing L.Δ_ref8_Failing) (drawD Try.prog L.Γ_ref8_Failing) (.node .leaf (.node (.node .leaf (.node (.node .leaf (.lift L.ref8_Failing_L2_d 37 L.ref8_Failing_L2_F)) .leaf)) .leaf)) (sub [true, false, true, false, false] (codeOf Try.f17))) 0 L.ref8_Failing_L1_d K) fu (setVs L.ref8_Failing_L1_d.vecs 0 (bld L.ref8_Failing_L1_d.keep [.ro (.slice (.int .i64)) culprits1, .ro (.int .i64) set1, .x (.int .i64 i_)] 0 37)) [] := by
      funext i_; exact ih i_
    show L.ref8_Failing_L1_b culprits1 set1 i_ (fun i_ => L.ref8_Failing_L1_R culprits1 set1 fu i_ (K (.exit 0) (setVs [] 0 (bld [] [] 0 37)) []) (fun r0 => K .ret (bld [4] [.x (.bool r0)] 0 37) [])) (K (.exit 0) (setVs [] 0 (bld [] [] 0 37)) []) (fun r0 => K .ret (bld [4] [.x (.bool r0)] 0 37) []) = _
    rw [e]
    kernel_rfl
theorem L.ref8_Failing_L1_imp (vs : List V) (st : List Ob) (K : Ex → St) (h : L.ref8_Failing_L1_G vs st K) : ∃ fu, iterL (stepL (exec Try.prog (CC Try.prog L.Γ_ref8_Failing L.Δ_ref8_Failing) (drawD Try.prog L.Γ_ref8_Failing) (.node .leaf (.node (.node .leaf (.node (.node .leaf (.lift L.ref8_Failing_L2_d 37 L.ref8_Failing_L2_F)) .leaf)) .leaf)) (sub [true, false, true, false, false] (codeOf Try.f17))) 0 L.ref8_Failing_L1_d K) fu (setVs L.ref8_Failing_L1_d.vecs 0 (bld L.ref8_Failing_L1_d.keep (mkL L.ref8_Failing_L1_ss 0 vs) 0 37)) (mkOs L.ref8_Failing_L1_os 0 st) :=
  exMap (fun fu h => Eq.mp (Eq.trans (L.ref8_Failing_L1_eq (gR (.slice (.int .i64)) (vs.getD 0 .any)) (gR (.int .i64) (vs.getD 1 .any)) K fu (gI (vs.getD 2 .any))) (by kernel_rfl)) h) (L.ref8_Failing_L1.out h)
theorem L.ref8_Failing_L1_ok : AnnOk Try.prog (CC Try.prog L.Γ_ref8_Failing L.Δ_ref8_Failing) (drawD Try.prog L.Γ_ref8_Failing) 0 (.lift L.ref8_Failing_L1_d 37 L.ref8_Failing_L1_F) (.loop (sub [true, false, true, false, false] (codeOf Try.f17))) :=
  lift_ok (an := (.node .leaf (.node (.node .leaf (.node (.node .leaf (.lift L.ref8_Failing_L2_d 37 L.ref8_Failing_L2_F)) .leaf)) .leaf))) (ss := L.ref8_Failing_L1_ss) (os := L.ref8_Failing_L1_os) (G := L.ref8_Failing_L1_G) (L0 := 0) rfl ⟨(annOk_leaf _), ⟨⟨(annOk_leaf _), ⟨⟨(annOk_leaf _), L.ref8_Failing_L2_ok⟩, (annOk_leaf _)⟩⟩, (annOk_leaf _)⟩⟩ rfl L.ref8_Failing_L1_imp
def L.ref8_Failing_B (culprits : (List (List Int))) (set : (List Int)) (K : Bool → Prop) : Prop :=
  L.ref8_Failing_L1 culprits set 0 (K false) (fun r => K r)
structure L.ref8_Failing (culprits : (List (List Int))) (set : (List Int)) (K : Bool → Prop) : Prop where
  out : L.ref8_Failing_B culprits set K
def L.ref8_Failing_ss : List Sh := [.ro (.slice (.int .i64)), .ro (.int .i64)]
def L.ref8_Failing_G (vs : List V) (K : V → List Ob → Prop) : Prop := L.ref8_Failing (gR (.slice (.int .i64)) (vs.getD 0 .any)) (gR (.int .i64) (vs.getD 1 .any)) (fun r0 => K (.x (.bool r0)) [])
def L.ref8_Failing_S : SemF := fun args K => argF L.ref8_Failing_ss args fun a => L.ref8_Failing_G a K
theorem L.ref8_Failing_eq (culprits : (List (List Int))) (set : (List Int)) (K : V → List Ob → Prop) : run Try.prog L.Γ_ref8_Failing L.Δ_ref8_Failing (.node .leaf (.node (.node .leaf (.lift L.ref8_Failing_L1_d 37 L.ref8_Failing_L1_F)) .leaf)) .any Try.f17 [.ro (.slice (.int .i64)) culprits, .ro (.int .i64) set] K = L.ref8_Failing_B culprits set (fun r0 => K (.x (.bool r0)) []) := by
  kernel_rfl
theorem L.ref8_Failing_imp (vs : List V) (K : V → List Ob → Prop) (h : L.ref8_Failing_G vs K) : run Try.prog L.Γ_ref8_Failing L.Δ_ref8_Failing (.node .leaf (.node (.node .leaf (.lift L.ref8_Failing_L1_d 37 L.ref8_Failing_L1_F)) .leaf)) .any Try.f17 (mkL L.ref8_Failing_ss 0 vs) K :=
  Eq.mpr (Eq.trans (b := run Try.prog L.Γ_ref8_Failing L.Δ_ref8_Failing (.node .leaf (.node (.node .leaf (.lift L.ref8_Failing_L1_d 37 L.ref8_Failing_L1_F)) .leaf)) .any Try.f17 [.ro (.slice (.int .i64)) (gR (.slice (.int .i64)) (vs.getD 0 .any)), .ro (.int .i64) (gR (.int .i64) (vs.getD 1 .any))] K) (by kernel_rfl) (L.ref8_Failing_eq (gR (.slice (.int .i64)) (vs.getD 0 .any)) (gR (.int .i64) (vs.getD 1 .any)) K)) (L.ref8_Failing.out h)
theorem L.ref8_Failing_ok : SoundFn Try.prog 17 L.ref8_Failing_S :=
  fn_ok (sem := run Try.prog L.Γ_ref8_Failing L.Δ_ref8_Failing (.node .leaf (.node (.node .leaf (.lift L.ref8_Failing_L1_d 37 L.ref8_Failing_L1_F)) .leaf)) .any Try.f17) (ss := L.ref8_Failing_ss) (G := L.ref8_Failing_G) (run_ok L.Γ_ref8_Failing_ok L.Δ_ref8_Failing_ok Try.func17 (ann := (.node .leaf (.node (.node .leaf (.lift L.ref8_Failing_L1_d 37 L.ref8_Failing_L1_F)) .leaf))) ⟨(annOk_leaf _), ⟨⟨(annOk_leaf _), L.ref8_Failing_L1_ok⟩, (annOk_leaf _)⟩⟩) L.ref8_Failing_imp
/-- changeforge/changeforgeref8.Landed -/
def L.Γ_ref8_Landed : Ctx := ctxC L.Γ_ref8_Failing 17 L.ref8_Failing_S
theorem L.Γ_ref8_Landed_ok : SoundG Try.prog L.Γ_ref8_Landed := ctxC_ok L.Γ_ref8_Failing_ok L.ref8_Failing_ok
def L.Δ_ref8_Landed : CtxO := L.Δ_ref8_Failing
theorem L.Δ_ref8_Landed_ok : SoundGO Try.prog L.Δ_ref8_Landed := L.Δ_ref8_Failing_ok
def L.ref8_Landed_B (culprits : (List (List Int))) (landed : (List Int)) (next : Int) (K : Bool → Prop) : Prop :=
  (fits (([] : List Int).length + landed.length)) ∧ (fits ((([] : List Int) ++ landed).length + ([next] : List Int).length)) ∧ L.ref8_Failing culprits ((([] : List Int) ++ landed) ++ ([next] : List Int)) (fun r => K (!r))
structure L.ref8_Landed (culprits : (List (List Int))) (landed : (List Int)) (next : Int) (K : Bool → Prop) : Prop where
  out : L.ref8_Landed_B culprits landed next K
def L.ref8_Landed_ss : List Sh := [.ro (.slice (.int .i64)), .ro (.int .i64), .int .i64]
def L.ref8_Landed_G (vs : List V) (K : V → List Ob → Prop) : Prop := L.ref8_Landed (gR (.slice (.int .i64)) (vs.getD 0 .any)) (gR (.int .i64) (vs.getD 1 .any)) (gI (vs.getD 2 .any)) (fun r0 => K (.x (.bool r0)) [])
def L.ref8_Landed_S : SemF := fun args K => argF L.ref8_Landed_ss args fun a => L.ref8_Landed_G a K
theorem L.ref8_Landed_eq (culprits : (List (List Int))) (landed : (List Int)) (next : Int) (K : V → List Ob → Prop) : run Try.prog L.Γ_ref8_Landed L.Δ_ref8_Landed .leaf .any Try.f18 [.ro (.slice (.int .i64)) culprits, .ro (.int .i64) landed, .x (.int .i64 next)] K = L.ref8_Landed_B culprits landed next (fun r0 => K (.x (.bool r0)) []) := by
  kernel_rfl
theorem L.ref8_Landed_imp (vs : List V) (K : V → List Ob → Prop) (h : L.ref8_Landed_G vs K) : run Try.prog L.Γ_ref8_Landed L.Δ_ref8_Landed .leaf .any Try.f18 (mkL L.ref8_Landed_ss 0 vs) K :=
  Eq.mpr (Eq.trans (b := run Try.prog L.Γ_ref8_Landed L.Δ_ref8_Landed .leaf .any Try.f18 [.ro (.slice (.int .i64)) (gR (.slice (.int .i64)) (vs.getD 0 .any)), .ro (.int .i64) (gR (.int .i64) (vs.getD 1 .any)), .x (.int .i64 (gI (vs.getD 2 .any)))] K) (by kernel_rfl) (L.ref8_Landed_eq (gR (.slice (.int .i64)) (vs.getD 0 .any)) (gR (.int .i64) (vs.getD 1 .any)) (gI (vs.getD 2 .any)) K)) (L.ref8_Landed.out h)
theorem L.ref8_Landed_ok : SoundFn Try.prog 18 L.ref8_Landed_S :=
  fn_ok (sem := run Try.prog L.Γ_ref8_Landed L.Δ_ref8_Landed .leaf .any Try.f18) (ss := L.ref8_Landed_ss) (G := L.ref8_Landed_G) (run_ok L.Γ_ref8_Landed_ok L.Δ_ref8_Landed_ok Try.func18 (ann := .leaf) (annOk_leaf _)) L.ref8_Landed_imp
/-- changeforge/changeforgeref8.First -/
def L.Γ_ref8_First : Ctx := ctxC L.Γ_ref8_Landed 18 L.ref8_Landed_S
theorem L.Γ_ref8_First_ok : SoundG Try.prog L.Γ_ref8_First := ctxC_ok L.Γ_ref8_Landed_ok L.ref8_Landed_ok
def L.Δ_ref8_First : CtxO := L.Δ_ref8_Landed
theorem L.Δ_ref8_First_ok : SoundGO Try.prog L.Δ_ref8_First := L.Δ_ref8_Landed_ok
def L.ref8_First_L1_b (n1 : Int) (i_ : Int) (out : (List Int)) (self : Int → (List Int) → Prop) (Kx0 : (List Int) → Prop) : Prop :=
  (bif (decide (i_ < n1)) then (fits (out.length + ([i_] : List Int).length)) ∧ self (i64 (i_ + 1)) (out ++ ([i_] : List Int)) else Kx0 out)
def L.ref8_First_L1_R (n1 : Int) : Nat → Int → (List Int) → ((List Int) → Prop) → Prop
  | 0, _, _, _ => False
  | fu + 1, i_, out, Kx0 => L.ref8_First_L1_b n1 i_ out (fun i_ out => L.ref8_First_L1_R n1 fu i_ out Kx0) Kx0
structure L.ref8_First_L1 (n1 : Int) (i_ : Int) (out : (List Int)) (Kx0 : (List Int) → Prop) : Prop where
  out : ∃ fu, L.ref8_First_L1_R n1 fu i_ out Kx0
def L.ref8_First_L1_d : LoopD := { keep := [0, 4], vecs := [(3, (.int .i64))], out := [], rets := [2] }
def L.ref8_First_L1_ss : List Sh := [.int .i64, .int .i64]
def L.ref8_First_L1_os : List OSh := [.vec (.int .i64) true]
def L.ref8_First_L1_G (vs : List V) (st : List Ob) (K : Ex → St) : Prop := L.ref8_First_L1 (gI (vs.getD 0 .any)) (gI (vs.getD 1 .any)) (oX (.int .i64) (st.getD 0 .dead)) (fun r0 => K (.exit 0) (setVs [(3, (.int .i64))] 0 (bld [] [] 0 15)) [.vec (.int .i64) 0 r0])
def L.ref8_First_L1_F (vs : List V) (st : List Ob) (K : Ex → St) : Prop := fitF L.ref8_First_L1_ss L.ref8_First_L1_os vs st (L.ref8_First_L1_G vs st K)
theorem L.ref8_First_L1_eq (n1 : Int) (K : Ex → St) : ∀ (fu : Nat) (i_ : Int) (out : (List Int)), L.ref8_First_L1_R n1 fu i_ out (fun r0 => K (.exit 0) (setVs [(3, (.int .i64))] 0 (bld [] [] 0 15)) [.vec (.int .i64) 0 r0]) = iterL (stepL (exec Try.prog (CC Try.prog L.Γ_ref8_First L.Δ_ref8_First) (drawD Try.prog L.Γ_ref8_First) .leaf (sub [true, true, false, true, false, false] (codeOf Try.f22))) 0 L.ref8_First_L1_d K) fu (setVs L.ref8_First_L1_d.vecs 0 (bld L.ref8_First_L1_d.keep [.x (.int .i64 n1), .x (.int .i64 i_)] 0 15)) [.vec (.int .i64) 0 out] := by
  intro fu
  induction fu with
  | zero => intros; rfl
  | succ fu ih =>
    intro i_ out
    have e : (fun i_ out => L.ref8_First_L1_R n1 fu i_ out (fun r0 => K (.exit 0) (setVs [(3, (.int .i64))] 0 (bld [] [] 0 15)) [.vec (.int .i64) 0 r0])) = fun i_ out => iterL (stepL (exec Try.prog (CC Try.prog L.Γ_ref8_First L.Δ_ref8_First) (drawD Try.prog L.Γ_ref8_First) .leaf (sub [true, true, false, true, false, false] (codeOf Try.f22))) 0 L.ref8_First_L1_d K) fu (setVs L.ref8_First_L1_d.vecs 0 (bld L.ref8_First_L1_d.keep [.x (.int .i64 n1), .x (.int .i64 i_)] 0 15)) [.vec (.int .i64) 0 out] := by
      funext i_ out; exact ih i_ out
    show L.ref8_First_L1_b n1 i_ out (fun i_ out => L.ref8_First_L1_R n1 fu i_ out (fun r0 => K (.exit 0) (setVs [(3, (.int .i64))] 0 (bld [] [] 0 15)) [.vec (.int .i64) 0 r0])) (fun r0 => K (.exit 0) (setVs [(3, (.int .i64))] 0 (bld [] [] 0 15)) [.vec (.int .i64) 0 r0]) = _
    rw [e]
    kernel_rfl
theorem L.ref8_First_L1_imp (vs : List V) (st : List Ob) (K : Ex → St) (h : L.ref8_First_L1_G vs st K) : ∃ fu, iterL (stepL (exec Try.prog (CC Try.prog L.Γ_ref8_First L.Δ_ref8_First) (drawD Try.prog L.Γ_ref8_First) .leaf (sub [true, true, false, true, false, false] (codeOf Try.f22))) 0 L.ref8_First_L1_d K) fu (setVs L.ref8_First_L1_d.vecs 0 (bld L.ref8_First_L1_d.keep (mkL L.ref8_First_L1_ss 0 vs) 0 15)) (mkOs L.ref8_First_L1_os 0 st) :=
  exMap (fun fu h => Eq.mp (Eq.trans (L.ref8_First_L1_eq (gI (vs.getD 0 .any)) K fu (gI (vs.getD 1 .any)) (oX (.int .i64) (st.getD 0 .dead))) (by kernel_rfl)) h) (L.ref8_First_L1.out h)
theorem L.ref8_First_L1_ok : AnnOk Try.prog (CC Try.prog L.Γ_ref8_First L.Δ_ref8_First) (drawD Try.prog L.Γ_ref8_First) 0 (.lift L.ref8_First_L1_d 15 L.ref8_First_L1_F) (.loop (sub [true, true, false, true, false, false] (codeOf Try.f22))) :=
  lift_ok (an := .leaf) (ss := L.ref8_First_L1_ss) (os := L.ref8_First_L1_os) (G := L.ref8_First_L1_G) (L0 := 0) rfl (annOk_leaf _) rfl L.ref8_First_L1_imp
def L.ref8_First_B (n : Int) (K : (List Int) → Prop) : Prop :=
  L.ref8_First_L1 n 0 ([] : List Int) (fun out => K out)
structure L.ref8_First (n : Int) (K : (List Int) → Prop) : Prop where
  out : L.ref8_First_B n K
def L.ref8_First_ss : List Sh := [.int .i64]
def L.ref8_First_G (vs : List V) (K : V → List Ob → Prop) : Prop := L.ref8_First (gI (vs.getD 0 .any)) (fun r0 => K (.vec 0) [.vec (.int .i64) 0 r0])
def L.ref8_First_S : SemF := fun args K => argF L.ref8_First_ss args fun a => L.ref8_First_G a K
theorem L.ref8_First_eq (n : Int) (K : V → List Ob → Prop) : run Try.prog L.Γ_ref8_First L.Δ_ref8_First (.node .leaf (.node .leaf (.node (.node .leaf (.lift L.ref8_First_L1_d 15 L.ref8_First_L1_F)) .leaf))) (.sl (.int .i64)) Try.f22 [.x (.int .i64 n)] K = L.ref8_First_B n (fun r0 => K (.vec 0) [.vec (.int .i64) 0 r0]) := by
  kernel_rfl
theorem L.ref8_First_imp (vs : List V) (K : V → List Ob → Prop) (h : L.ref8_First_G vs K) : run Try.prog L.Γ_ref8_First L.Δ_ref8_First (.node .leaf (.node .leaf (.node (.node .leaf (.lift L.ref8_First_L1_d 15 L.ref8_First_L1_F)) .leaf))) (.sl (.int .i64)) Try.f22 (mkL L.ref8_First_ss 0 vs) K :=
  Eq.mpr (Eq.trans (b := run Try.prog L.Γ_ref8_First L.Δ_ref8_First (.node .leaf (.node .leaf (.node (.node .leaf (.lift L.ref8_First_L1_d 15 L.ref8_First_L1_F)) .leaf))) (.sl (.int .i64)) Try.f22 [.x (.int .i64 (gI (vs.getD 0 .any)))] K) (by kernel_rfl) (L.ref8_First_eq (gI (vs.getD 0 .any)) K)) (L.ref8_First.out h)
theorem L.ref8_First_ok : SoundFn Try.prog 22 L.ref8_First_S :=
  fn_ok (sem := run Try.prog L.Γ_ref8_First L.Δ_ref8_First (.node .leaf (.node .leaf (.node (.node .leaf (.lift L.ref8_First_L1_d 15 L.ref8_First_L1_F)) .leaf))) (.sl (.int .i64)) Try.f22) (ss := L.ref8_First_ss) (G := L.ref8_First_G) (run_ok L.Γ_ref8_First_ok L.Δ_ref8_First_ok Try.func22 (ann := (.node .leaf (.node .leaf (.node (.node .leaf (.lift L.ref8_First_L1_d 15 L.ref8_First_L1_F)) .leaf)))) ⟨(annOk_leaf _), ⟨(annOk_leaf _), ⟨⟨(annOk_leaf _), L.ref8_First_L1_ok⟩, (annOk_leaf _)⟩⟩⟩) L.ref8_First_imp
/-- changeforge/changeforgeref8.FirstFailing -/
def L.Γ_ref8_FirstFailing : Ctx := ctxC L.Γ_ref8_First 22 L.ref8_First_S
theorem L.Γ_ref8_FirstFailing_ok : SoundG Try.prog L.Γ_ref8_FirstFailing := ctxC_ok L.Γ_ref8_First_ok L.ref8_First_ok
def L.Δ_ref8_FirstFailing : CtxO := L.Δ_ref8_First
theorem L.Δ_ref8_FirstFailing_ok : SoundGO Try.prog L.Δ_ref8_FirstFailing := L.Δ_ref8_First_ok
def L.ref8_FirstFailing_L1_b (n1 : Int) (culprits1 : (List (List Int))) (others1 : (List Int)) (c : Int) (self : Int → Prop) (Kx0 : Prop) (Kr : Int → Prop) : Prop :=
  (bif (decide (c < n1)) then L.ref8_First (i64 (c + 1)) (fun r => (fits (r.length + others1.length)) ∧ L.ref8_Failing culprits1 (r ++ others1) (fun r1 => (bif r1 then Kr c else self (i64 (c + 1))))) else Kx0)
def L.ref8_FirstFailing_L1_R (n1 : Int) (culprits1 : (List (List Int))) (others1 : (List Int)) : Nat → Int → (Prop) → (Int → Prop) → Prop
  | 0, _, _, _ => False
  | fu + 1, c, Kx0, Kr => L.ref8_FirstFailing_L1_b n1 culprits1 others1 c (fun c => L.ref8_FirstFailing_L1_R n1 culprits1 others1 fu c Kx0 Kr) Kx0 Kr
structure L.ref8_FirstFailing_L1 (n1 : Int) (culprits1 : (List (List Int))) (others1 : (List Int)) (c : Int) (Kx0 : Prop) (Kr : Int → Prop) : Prop where
  out : ∃ fu, L.ref8_FirstFailing_L1_R n1 culprits1 others1 fu c Kx0 Kr
def L.ref8_FirstFailing_L1_d : LoopD := { keep := [0, 1, 2, 7], vecs := [], out := [], rets := [6] }
def L.ref8_FirstFailing_L1_ss : List Sh := [.int .i64, .ro (.slice (.int .i64)), .ro (.int .i64), .int .i64]
def L.ref8_FirstFailing_L1_os : List OSh := []
def L.ref8_FirstFailing_L1_G (vs : List V) (st : List Ob) (K : Ex → St) : Prop := L.ref8_FirstFailing_L1 (gI (vs.getD 0 .any)) (gR (.slice (.int .i64)) (vs.getD 1 .any)) (gR (.int .i64) (vs.getD 2 .any)) (gI (vs.getD 3 .any)) (K (.exit 0) (setVs [] 0 (bld [] [] 0 21)) []) (fun r0 => K .ret (bld [6] [.x (.int .i64 r0)] 0 21) [])
def L.ref8_FirstFailing_L1_F (vs : List V) (st : List Ob) (K : Ex → St) : Prop := fitF L.ref8_FirstFailing_L1_ss L.ref8_FirstFailing_L1_os vs st (L.ref8_FirstFailing_L1_G vs st K)
theorem L.ref8_FirstFailing_L1_eq (n1 : Int) (culprits1 : (List (List Int))) (others1 : (List Int)) (K : Ex → St) : ∀ (fu : Nat) (c : Int), L.ref8_FirstFailing_L1_R n1 culprits1 others1 fu c (K (.exit 0) (setVs [] 0 (bld [] [] 0 21)) []) (fun r0 => K .ret (bld [6] [.x (.int .i64 r0)] 0 21) []) = iterL (stepL (exec Try.prog (CC Try.prog L.Γ_ref8_FirstFailing L.Δ_ref8_FirstFailing) (drawD Try.prog L.Γ_ref8_FirstFailing) .leaf (sub [true, false, true, false, false] (codeOf Try.f20))) 0 L.ref8_FirstFailing_L1_d K) fu (setVs L.ref8_FirstFailing_L1_d.vecs 0 (bld L.ref8_FirstFailing_L1_d.keep [.x (.int .i64 n1), .ro (.slice (.int .i64)) culprits1, .ro (.int .i64) others1, .x (.int .i64 c)] 0 21)) [] := by
  intro fu
  induction fu with
  | zero => intros; rfl
  | succ fu ih =>
    intro c
    have e : (fun c => L.ref8_FirstFailing_L1_R n1 culprits1 others1 fu c (K (.exit 0) (setVs [] 0 (bld [] [] 0 21)) []) (fun r0 => K .ret (bld [6] [.x (.int .i64 r0)] 0 21) [])) = fun c => iterL (stepL (exec Try.prog (CC Try.prog L.Γ_ref8_FirstFailing L.Δ_ref8_FirstFailing) (drawD Try.prog L.Γ_ref8_FirstFailing) .leaf (sub [true, false, true, false, false] (codeOf Try.f20))) 0 L.ref8_FirstFailing_L1_d K) fu (setVs L.ref8_FirstFailing_L1_d.vecs 0 (bld L.ref8_FirstFailing_L1_d.keep [.x (.int .i64 n1), .ro (.slice (.int .i64)) culprits1, .ro (.int .i64) others1, .x (.int .i64 c)] 0 21)) [] := by
      funext c; exact ih c
    show L.ref8_FirstFailing_L1_b n1 culprits1 others1 c (fun c => L.ref8_FirstFailing_L1_R n1 culprits1 others1 fu c (K (.exit 0) (setVs [] 0 (bld [] [] 0 21)) []) (fun r0 => K .ret (bld [6] [.x (.int .i64 r0)] 0 21) [])) (K (.exit 0) (setVs [] 0 (bld [] [] 0 21)) []) (fun r0 => K .ret (bld [6] [.x (.int .i64 r0)] 0 21) []) = _
    rw [e]
    kernel_rfl
theorem L.ref8_FirstFailing_L1_imp (vs : List V) (st : List Ob) (K : Ex → St) (h : L.ref8_FirstFailing_L1_G vs st K) : ∃ fu, iterL (stepL (exec Try.prog (CC Try.prog L.Γ_ref8_FirstFailing L.Δ_ref8_FirstFailing) (drawD Try.prog L.Γ_ref8_FirstFailing) .leaf (sub [true, false, true, false, false] (codeOf Try.f20))) 0 L.ref8_FirstFailing_L1_d K) fu (setVs L.ref8_FirstFailing_L1_d.vecs 0 (bld L.ref8_FirstFailing_L1_d.keep (mkL L.ref8_FirstFailing_L1_ss 0 vs) 0 21)) (mkOs L.ref8_FirstFailing_L1_os 0 st) :=
  exMap (fun fu h => Eq.mp (Eq.trans (L.ref8_FirstFailing_L1_eq (gI (vs.getD 0 .any)) (gR (.slice (.int .i64)) (vs.getD 1 .any)) (gR (.int .i64) (vs.getD 2 .any)) K fu (gI (vs.getD 3 .any))) (by kernel_rfl)) h) (L.ref8_FirstFailing_L1.out h)
theorem L.ref8_FirstFailing_L1_ok : AnnOk Try.prog (CC Try.prog L.Γ_ref8_FirstFailing L.Δ_ref8_FirstFailing) (drawD Try.prog L.Γ_ref8_FirstFailing) 0 (.lift L.ref8_FirstFailing_L1_d 21 L.ref8_FirstFailing_L1_F) (.loop (sub [true, false, true, false, false] (codeOf Try.f20))) :=
  lift_ok (an := .leaf) (ss := L.ref8_FirstFailing_L1_ss) (os := L.ref8_FirstFailing_L1_os) (G := L.ref8_FirstFailing_L1_G) (L0 := 0) rfl (annOk_leaf _) rfl L.ref8_FirstFailing_L1_imp
def L.ref8_FirstFailing_B (n : Int) (culprits : (List (List Int))) (others : (List Int)) (K : Int → Prop) : Prop :=
  L.ref8_FirstFailing_L1 n culprits others 0 (K (-1)) (fun r => K r)
structure L.ref8_FirstFailing (n : Int) (culprits : (List (List Int))) (others : (List Int)) (K : Int → Prop) : Prop where
  out : L.ref8_FirstFailing_B n culprits others K
def L.ref8_FirstFailing_ss : List Sh := [.int .i64, .ro (.slice (.int .i64)), .ro (.int .i64)]
def L.ref8_FirstFailing_G (vs : List V) (K : V → List Ob → Prop) : Prop := L.ref8_FirstFailing (gI (vs.getD 0 .any)) (gR (.slice (.int .i64)) (vs.getD 1 .any)) (gR (.int .i64) (vs.getD 2 .any)) (fun r0 => K (.x (.int .i64 r0)) [])
def L.ref8_FirstFailing_S : SemF := fun args K => argF L.ref8_FirstFailing_ss args fun a => L.ref8_FirstFailing_G a K
theorem L.ref8_FirstFailing_eq (n : Int) (culprits : (List (List Int))) (others : (List Int)) (K : V → List Ob → Prop) : run Try.prog L.Γ_ref8_FirstFailing L.Δ_ref8_FirstFailing (.node .leaf (.node (.node .leaf (.lift L.ref8_FirstFailing_L1_d 21 L.ref8_FirstFailing_L1_F)) .leaf)) .any Try.f20 [.x (.int .i64 n), .ro (.slice (.int .i64)) culprits, .ro (.int .i64) others] K = L.ref8_FirstFailing_B n culprits others (fun r0 => K (.x (.int .i64 r0)) []) := by
  kernel_rfl
theorem L.ref8_FirstFailing_imp (vs : List V) (K : V → List Ob → Prop) (h : L.ref8_FirstFailing_G vs K) : run Try.prog L.Γ_ref8_FirstFailing L.Δ_ref8_FirstFailing (.node .leaf (.node (.node .leaf (.lift L.ref8_FirstFailing_L1_d 21 L.ref8_FirstFailing_L1_F)) .leaf)) .any Try.f20 (mkL L.ref8_FirstFailing_ss 0 vs) K :=
  Eq.mpr (Eq.trans (b := run Try.prog L.Γ_ref8_FirstFailing L.Δ_ref8_FirstFailing (.node .leaf (.node (.node .leaf (.lift L.ref8_FirstFailing_L1_d 21 L.ref8_FirstFailing_L1_F)) .leaf)) .any Try.f20 [.x (.int .i64 (gI (vs.getD 0 .any))), .ro (.slice (.int .i64)) (gR (.slice (.int .i64)) (vs.getD 1 .any)), .ro (.int .i64) (gR (.int .i64) (vs.getD 2 .any))] K) (by kernel_rfl) (L.ref8_FirstFailing_eq (gI (vs.getD 0 .any)) (gR (.slice (.int .i64)) (vs.getD 1 .any)) (gR (.int .i64) (vs.getD 2 .any)) K)) (L.ref8_FirstFailing.out h)
theorem L.ref8_FirstFailing_ok : SoundFn Try.prog 20 L.ref8_FirstFailing_S :=
  fn_ok (sem := run Try.prog L.Γ_ref8_FirstFailing L.Δ_ref8_FirstFailing (.node .leaf (.node (.node .leaf (.lift L.ref8_FirstFailing_L1_d 21 L.ref8_FirstFailing_L1_F)) .leaf)) .any Try.f20) (ss := L.ref8_FirstFailing_ss) (G := L.ref8_FirstFailing_G) (run_ok L.Γ_ref8_FirstFailing_ok L.Δ_ref8_FirstFailing_ok Try.func20 (ann := (.node .leaf (.node (.node .leaf (.lift L.ref8_FirstFailing_L1_d 21 L.ref8_FirstFailing_L1_F)) .leaf))) ⟨(annOk_leaf _), ⟨⟨(annOk_leaf _), L.ref8_FirstFailing_L1_ok⟩, (annOk_leaf _)⟩⟩) L.ref8_FirstFailing_imp
end Go.Proofs.Ytmfdikjeijnlmaa

/-
  Part 5 of a proof of one law by a verified reader of the program: lifted functions, their plain specifications, the law. Conditions: none.
-/
import Derived.Test.YtnpjonhoihbaeaaGreatDoorQ4
import Derived.Test.YtnpjonhoihbaeaaGreatDoorProg
set_option linter.unusedVariables false
set_option maxRecDepth 100000
namespace Go.Proofs.YtnpjonhoihbaeaaGreatDoor
open Eng
def L.Γ_d0 : Ctx := ctxA L.Γ_f4 38 L.f4_ss L.f4_G
theorem L.Γ_d0_ok : SoundG L.pg L.Γ_d0 := ctxA_ok L.Γ_f4_ok L.f4_ok
def L.Δ_d0 : CtxO := L.Δ_f4
theorem L.Δ_d0_ok : SoundGO L.pg L.Δ_d0 := L.Δ_f4_ok
def L.d0_L1_b (s1 : L.yi) (f2 : Int) (f3 : (List Int)) (v7 : Int) (v8 : Int) (self : Int → Prop) (Kx0 : Prop) (Kr : Int → Prop) : Prop :=
  (bif (decide (v8 < v7)) then (inB v8 s1.length) ∧ L.f4 (s1.getD v8.toNat []) f2 f3 (fun r => (bif r then Kr v8 else self (i64 (v8 + 1)))) else Kx0)
def L.d0_L1_R (s1 : L.yi) (f2 : Int) (f3 : (List Int)) (v7 : Int) : Nat → Int → (Prop) → (Int → Prop) → Prop
  | 0, _, _, _ => False
  | fu + 1, v8, Kx0, Kr => L.d0_L1_b s1 f2 f3 v7 v8 (fun v8 => L.d0_L1_R s1 f2 f3 v7 fu v8 Kx0 Kr) Kx0 Kr
structure L.d0_L1 (s1 : L.yi) (f2 : Int) (f3 : (List Int)) (v7 : Int) (v8 : Int) (Kx0 : Prop) (Kr : Int → Prop) : Prop where
  out : ∃ fu, L.d0_L1_R s1 f2 f3 v7 fu v8 Kx0 Kr
def L.d0_L1_d : LoopD := { base := 0, vecs := [], flds := [], keep := [0, 1, 7, 8], out := [], rets := [4], rv := [], rbase := 0 }
def L.d0_L1_ss : List Sh := [.ro L.ye, .fn 38 [] [.rc [.fn 23 [] [.rc [.int .i64] 0, .rc [.ro (.int .i64)] 0]] 0], .int .i64, .int .i64]
def L.d0_L1_os : List OSh := []
def L.d0_L1_G (vs : List V) (st : List Ob) (K : Ex → St) : Prop := L.d0_L1 (gR L.ye (gA vs 0)) (gI ((gC ((gFc ((gC ((gFc (gA vs 1)).getD 0 .any)).getD 0 .any)).getD 0 .any)).getD 0 .any)) (gR (.int .i64) ((gC ((gFc ((gC ((gFc (gA vs 1)).getD 0 .any)).getD 0 .any)).getD 1 .any)).getD 0 .any)) (gI (gA vs 2)) (gI (gA vs 3)) (K (.exit 0) (bld [] [] 0 19) []) (fun q0_ => K .ret (bld [4] [.xi q0_] 0 19) [])
def L.d0_L1_F (vs : List V) (st : List Ob) (K : Ex → St) : Prop := fitF L.d0_L1_ss L.d0_L1_os vs st (L.d0_L1_G vs st K)
theorem L.d0_L1_eq (s1 : L.yi) (f2 : Int) (f3 : (List Int)) (v7 : Int) (K : Ex → St) : ∀ (fu : Nat) (v8 : Int), L.d0_L1_R s1 f2 f3 v7 fu v8 (K (.exit 0) (bld [] [] 0 19) []) (fun q0_ => K .ret (bld [4] [.xi q0_] 0 19) []) = iterL (stepL (exec L.pg (CC L.pg L.Γ_d0 L.Δ_d0) (drawD L.pg L.Γ_d0 L.Δ_d0) .leaf (sub [true, false, true, false, false] (codeOf Tryz.f53))) 0 L.d0_L1_d K) fu (bld L.d0_L1_d.keep [.ro L.ye s1, .fn (.func 38) [] [.rc [.fn (.func 23) [] [.rc [.xi f2] 0, .rc [.ro (.int .i64) f3] 0]] 0], .xi v7, .xi v8] 0 19) [] := by
  intro fu
  induction fu with
  | zero => intros; rfl
  | succ fu ih =>
    intro v8
    have e : (fun v8 => L.d0_L1_R s1 f2 f3 v7 fu v8 (K (.exit 0) (bld [] [] 0 19) []) (fun q0_ => K .ret (bld [4] [.xi q0_] 0 19) [])) = fun v8 => iterL (stepL (exec L.pg (CC L.pg L.Γ_d0 L.Δ_d0) (drawD L.pg L.Γ_d0 L.Δ_d0) .leaf (sub [true, false, true, false, false] (codeOf Tryz.f53))) 0 L.d0_L1_d K) fu (bld L.d0_L1_d.keep [.ro L.ye s1, .fn (.func 38) [] [.rc [.fn (.func 23) [] [.rc [.xi f2] 0, .rc [.ro (.int .i64) f3] 0]] 0], .xi v7, .xi v8] 0 19) [] := by
      funext v8; exact ih v8
    show L.d0_L1_b s1 f2 f3 v7 v8 (fun v8 => L.d0_L1_R s1 f2 f3 v7 fu v8 (K (.exit 0) (bld [] [] 0 19) []) (fun q0_ => K .ret (bld [4] [.xi q0_] 0 19) [])) (K (.exit 0) (bld [] [] 0 19) []) (fun q0_ => K .ret (bld [4] [.xi q0_] 0 19) []) = _
    rw [e]
    kernel_rfl
theorem L.d0_L1_imp (vs : List V) (st : List Ob) (K : Ex → St) (h : L.d0_L1_G vs st K) : ∃ fu, iterL (stepL (exec L.pg (CC L.pg L.Γ_d0 L.Δ_d0) (drawD L.pg L.Γ_d0 L.Δ_d0) .leaf (sub [true, false, true, false, false] (codeOf Tryz.f53))) 0 L.d0_L1_d K) fu (bld L.d0_L1_d.keep (mkL L.d0_L1_ss 0 vs) 0 19) (mkOs L.d0_L1_os 0 st) :=
  exMap (fun fu h => @Eq.mp _ _ (Eq.trans (L.d0_L1_eq (gR L.ye (gA vs 0)) (gI ((gC ((gFc ((gC ((gFc (gA vs 1)).getD 0 .any)).getD 0 .any)).getD 0 .any)).getD 0 .any)) (gR (.int .i64) ((gC ((gFc ((gC ((gFc (gA vs 1)).getD 0 .any)).getD 0 .any)).getD 1 .any)).getD 0 .any)) (gI (gA vs 2)) K fu (gI (gA vs 3))) (by kernel_rfl)) h) (L.d0_L1.out h)
theorem L.d0_L1_ok : AnnOk L.pg (CC L.pg L.Γ_d0 L.Δ_d0) (drawD L.pg L.Γ_d0 L.Δ_d0) 0 (.lift L.d0_L1_d 19 L.d0_L1_F) (.loop (sub [true, false, true, false, false] (codeOf Tryz.f53))) :=
  lift_ok (an := .leaf) (ss := L.d0_L1_ss) (os := L.d0_L1_os) (G := L.d0_L1_G) rfl (Nat.le_of_ble_eq_true rfl) (annOk_leaf _) (L.d0_L1_imp)
def L.d0_B (s : L.yi) (f : Int) (f1 : (List Int)) (K : Int → Prop) : Prop :=
  L.d0_L1 s f f1 (s.length : Int) 0 (K (-1)) (fun r => K r)
structure L.d0 (s : L.yi) (f : Int) (f1 : (List Int)) (K : Int → Prop) : Prop where
  out : L.d0_B s f f1 K
def L.d0_ss : List Sh := [.ro L.ye, .fn 38 [] [.rc [.fn 23 [] [.rc [.int .i64] 0, .rc [.ro (.int .i64)] 0]] 0]]
def L.d0_G (vs : List V) (K : V → List Ob → Prop) : Prop := L.d0 (gR L.ye (gA vs 0)) (gI ((gC ((gFc ((gC ((gFc (gA vs 1)).getD 0 .any)).getD 0 .any)).getD 0 .any)).getD 0 .any)) (gR (.int .i64) ((gC ((gFc ((gC ((gFc (gA vs 1)).getD 0 .any)).getD 0 .any)).getD 1 .any)).getD 0 .any)) (fun r0 => K (.xi r0) [])
def L.d0_S : SemF := fun args K => argF L.d0_ss args fun a => L.d0_G a K
theorem L.d0_eq (s : L.yi) (f : Int) (f1 : (List Int)) (K : V → List Ob → Prop) : run L.pg L.Γ_d0 L.Δ_d0 (.node .leaf (.node (.node .leaf (.lift L.d0_L1_d 19 L.d0_L1_F)) .leaf)) .any Tryz.f53 [.ro L.ye s, .fn (.func 38) [] [.rc [.fn (.func 23) [] [.rc [.xi f] 0, .rc [.ro (.int .i64) f1] 0]] 0]] K = L.d0_B s f f1 (fun r0 => K (.xi r0) []) := by
  kernel_rfl
theorem L.d0_imp (vs : List V) (K : V → List Ob → Prop) : Imp (L.d0_G vs K) (run L.pg L.Γ_d0 L.Δ_d0 (.node .leaf (.node (.node .leaf (.lift L.d0_L1_d 19 L.d0_L1_F)) .leaf)) .any Tryz.f53 (mkL L.d0_ss 0 vs) K) :=
  Imp.of (Eq.trans (b := run L.pg L.Γ_d0 L.Δ_d0 (.node .leaf (.node (.node .leaf (.lift L.d0_L1_d 19 L.d0_L1_F)) .leaf)) .any Tryz.f53 [.ro L.ye (gR L.ye (gA vs 0)), .fn (.func 38) [] [.rc [.fn (.func 23) [] [.rc [.xi (gI ((gC ((gFc ((gC ((gFc (gA vs 1)).getD 0 .any)).getD 0 .any)).getD 0 .any)).getD 0 .any))] 0, .rc [.ro (.int .i64) (gR (.int .i64) ((gC ((gFc ((gC ((gFc (gA vs 1)).getD 0 .any)).getD 0 .any)).getD 1 .any)).getD 0 .any))] 0]] 0]] K) (by kernel_rfl) (L.d0_eq (gR L.ye (gA vs 0)) (gI ((gC ((gFc ((gC ((gFc (gA vs 1)).getD 0 .any)).getD 0 .any)).getD 0 .any)).getD 0 .any)) (gR (.int .i64) ((gC ((gFc ((gC ((gFc (gA vs 1)).getD 0 .any)).getD 0 .any)).getD 1 .any)).getD 0 .any)) K)) fun h => (L.d0.out h)
theorem L.d0_ok : SoundFn L.pg 53 L.d0_S :=
  fn_ok (sem := run L.pg L.Γ_d0 L.Δ_d0 (.node .leaf (.node (.node .leaf (.lift L.d0_L1_d 19 L.d0_L1_F)) .leaf)) .any Tryz.f53) (ss := L.d0_ss) (G := L.d0_G) (run_ok L.Γ_d0_ok L.Δ_d0_ok Tryz.func53 (ann := (.node .leaf (.node (.node .leaf (.lift L.d0_L1_d 19 L.d0_L1_F)) .leaf))) ⟨(annOk_leaf _), ⟨⟨(annOk_leaf _), L.d0_L1_ok⟩, (annOk_leaf _)⟩⟩) L.d0_imp
def L.Γ_g9 : Ctx := ctxA L.Γ_d0 53 L.d0_ss L.d0_G
theorem L.Γ_g9_ok : SoundG L.pg L.Γ_g9 := ctxA_ok L.Γ_d0_ok L.d0_ok
def L.Δ_g9 : CtxO := L.Δ_d0
theorem L.Δ_g9_ok : SoundGO L.pg L.Δ_g9 := L.Δ_d0_ok
def L.g9_B (s : L.yi) (f : Int) (f1 : (List Int)) (K : Bool → Prop) : Prop :=
  L.d0 s f f1 (fun r => K (decide (r ≥ 0)))
structure L.g9 (s : L.yi) (f : Int) (f1 : (List Int)) (K : Bool → Prop) : Prop where
  out : L.g9_B s f f1 K
def L.g9_ss : List Sh := [.ro L.ye, .fn 38 [] [.rc [.fn 23 [] [.rc [.int .i64] 0, .rc [.ro (.int .i64)] 0]] 0]]
def L.g9_G (vs : List V) (K : V → List Ob → Prop) : Prop := L.g9 (gR L.ye (gA vs 0)) (gI ((gC ((gFc ((gC ((gFc (gA vs 1)).getD 0 .any)).getD 0 .any)).getD 0 .any)).getD 0 .any)) (gR (.int .i64) ((gC ((gFc ((gC ((gFc (gA vs 1)).getD 0 .any)).getD 0 .any)).getD 1 .any)).getD 0 .any)) (fun r0 => K (.x (.bool r0)) [])
def L.g9_S : SemF := fun args K => argF L.g9_ss args fun a => L.g9_G a K
theorem L.g9_eq (s : L.yi) (f : Int) (f1 : (List Int)) (K : V → List Ob → Prop) : run L.pg L.Γ_g9 L.Δ_g9 .leaf .any Tryz.f37 [.ro L.ye s, .fn (.func 38) [] [.rc [.fn (.func 23) [] [.rc [.xi f] 0, .rc [.ro (.int .i64) f1] 0]] 0]] K = L.g9_B s f f1 (fun r0 => K (.x (.bool r0)) []) := by
  kernel_rfl
theorem L.g9_imp (vs : List V) (K : V → List Ob → Prop) : Imp (L.g9_G vs K) (run L.pg L.Γ_g9 L.Δ_g9 .leaf .any Tryz.f37 (mkL L.g9_ss 0 vs) K) :=
  Imp.of (Eq.trans (b := run L.pg L.Γ_g9 L.Δ_g9 .leaf .any Tryz.f37 [.ro L.ye (gR L.ye (gA vs 0)), .fn (.func 38) [] [.rc [.fn (.func 23) [] [.rc [.xi (gI ((gC ((gFc ((gC ((gFc (gA vs 1)).getD 0 .any)).getD 0 .any)).getD 0 .any)).getD 0 .any))] 0, .rc [.ro (.int .i64) (gR (.int .i64) ((gC ((gFc ((gC ((gFc (gA vs 1)).getD 0 .any)).getD 0 .any)).getD 1 .any)).getD 0 .any))] 0]] 0]] K) (by kernel_rfl) (L.g9_eq (gR L.ye (gA vs 0)) (gI ((gC ((gFc ((gC ((gFc (gA vs 1)).getD 0 .any)).getD 0 .any)).getD 0 .any)).getD 0 .any)) (gR (.int .i64) ((gC ((gFc ((gC ((gFc (gA vs 1)).getD 0 .any)).getD 0 .any)).getD 1 .any)).getD 0 .any)) K)) fun h => (L.g9.out h)
theorem L.g9_ok : SoundFn L.pg 37 L.g9_S :=
  fn_ok (sem := run L.pg L.Γ_g9 L.Δ_g9 .leaf .any Tryz.f37) (ss := L.g9_ss) (G := L.g9_G) (run_ok L.Γ_g9_ok L.Δ_g9_ok Tryz.func37 (ann := .leaf) (annOk_leaf _)) L.g9_imp
def L.Γ_h6 : Ctx := ctxA L.Γ_g9 37 L.g9_ss L.g9_G
theorem L.Γ_h6_ok : SoundG L.pg L.Γ_h6 := ctxA_ok L.Γ_g9_ok L.g9_ok
def L.Δ_h6 : CtxO := L.Δ_g9
theorem L.Δ_h6_ok : SoundGO L.pg L.Δ_h6 := L.Δ_g9_ok
def L.h6_B (culprits : L.yi) (in_ : Int) (in_1 : (List Int)) (K : Bool → Prop) : Prop :=
  L.g9 culprits in_ in_1 (fun r => K r)
structure L.h6 (culprits : L.yi) (in_ : Int) (in_1 : (List Int)) (K : Bool → Prop) : Prop where
  out : L.h6_B culprits in_ in_1 K
def L.h6_ss : List Sh := [.ro L.ye, .fn 23 [] [.rc [.int .i64] 0, .rc [.ro (.int .i64)] 0]]
def L.h6_G (vs : List V) (K : V → List Ob → Prop) : Prop := L.h6 (gR L.ye (gA vs 0)) (gI ((gC ((gFc (gA vs 1)).getD 0 .any)).getD 0 .any)) (gR (.int .i64) ((gC ((gFc (gA vs 1)).getD 1 .any)).getD 0 .any)) (fun r0 => K (.x (.bool r0)) [])
def L.h6_S : SemF := fun args K => argF L.h6_ss args fun a => L.h6_G a K
theorem L.h6_eq (culprits : L.yi) (in_ : Int) (in_1 : (List Int)) (K : V → List Ob → Prop) : run L.pg L.Γ_h6 L.Δ_h6 .leaf .any Tryz.f22 [.ro L.ye culprits, .fn (.func 23) [] [.rc [.xi in_] 0, .rc [.ro (.int .i64) in_1] 0]] K = L.h6_B culprits in_ in_1 (fun r0 => K (.x (.bool r0)) []) := by
  kernel_rfl
theorem L.h6_imp (vs : List V) (K : V → List Ob → Prop) : Imp (L.h6_G vs K) (run L.pg L.Γ_h6 L.Δ_h6 .leaf .any Tryz.f22 (mkL L.h6_ss 0 vs) K) :=
  Imp.of (Eq.trans (b := run L.pg L.Γ_h6 L.Δ_h6 .leaf .any Tryz.f22 [.ro L.ye (gR L.ye (gA vs 0)), .fn (.func 23) [] [.rc [.xi (gI ((gC ((gFc (gA vs 1)).getD 0 .any)).getD 0 .any))] 0, .rc [.ro (.int .i64) (gR (.int .i64) ((gC ((gFc (gA vs 1)).getD 1 .any)).getD 0 .any))] 0]] K) (by kernel_rfl) (L.h6_eq (gR L.ye (gA vs 0)) (gI ((gC ((gFc (gA vs 1)).getD 0 .any)).getD 0 .any)) (gR (.int .i64) ((gC ((gFc (gA vs 1)).getD 1 .any)).getD 0 .any)) K)) fun h => (L.h6.out h)
theorem L.h6_ok : SoundFn L.pg 22 L.h6_S :=
  fn_ok (sem := run L.pg L.Γ_h6 L.Δ_h6 .leaf .any Tryz.f22) (ss := L.h6_ss) (G := L.h6_G) (run_ok L.Γ_h6_ok L.Δ_h6_ok Tryz.func22 (ann := .leaf) (annOk_leaf _)) L.h6_imp
def L.Γ_e6 : Ctx := ctxA L.Γ_h6 22 L.h6_ss L.h6_G
theorem L.Γ_e6_ok : SoundG L.pg L.Γ_e6 := ctxA_ok L.Γ_h6_ok L.h6_ok
def L.Δ_e6 : CtxO := L.Δ_h6
theorem L.Δ_e6_ok : SoundGO L.pg L.Δ_e6 := L.Δ_h6_ok
def L.e6_B (culprits : L.yi) (set : (List Int)) (n : Int) (K : Bool → Prop) : Prop :=
  L.h6 culprits n set (fun r => K r)
structure L.e6 (culprits : L.yi) (set : (List Int)) (n : Int) (K : Bool → Prop) : Prop where
  out : L.e6_B culprits set n K
def L.e6_ss : List Sh := [.ro L.ye, .ro (.int .i64), .int .i64]
def L.e6_G (vs : List V) (K : V → List Ob → Prop) : Prop := L.e6 (gR L.ye (gA vs 0)) (gR (.int .i64) (gA vs 1)) (gI (gA vs 2)) (fun r0 => K (.x (.bool r0)) [])
def L.e6_S : SemF := fun args K => argF L.e6_ss args fun a => L.e6_G a K
theorem L.e6_eq (culprits : L.yi) (set : (List Int)) (n : Int) (K : V → List Ob → Prop) : run L.pg L.Γ_e6 L.Δ_e6 .leaf .any Tryz.f13 [.ro L.ye culprits, .ro (.int .i64) set, .xi n] K = L.e6_B culprits set n (fun r0 => K (.x (.bool r0)) []) := by
  kernel_rfl
theorem L.e6_imp (vs : List V) (K : V → List Ob → Prop) : Imp (L.e6_G vs K) (run L.pg L.Γ_e6 L.Δ_e6 .leaf .any Tryz.f13 (mkL L.e6_ss 0 vs) K) :=
  Imp.of (Eq.trans (b := run L.pg L.Γ_e6 L.Δ_e6 .leaf .any Tryz.f13 [.ro L.ye (gR L.ye (gA vs 0)), .ro (.int .i64) (gR (.int .i64) (gA vs 1)), .xi (gI (gA vs 2))] K) (by kernel_rfl) (L.e6_eq (gR L.ye (gA vs 0)) (gR (.int .i64) (gA vs 1)) (gI (gA vs 2)) K)) fun h => (L.e6.out h)
theorem L.e6_ok : SoundFn L.pg 13 L.e6_S :=
  fn_ok (sem := run L.pg L.Γ_e6 L.Δ_e6 .leaf .any Tryz.f13) (ss := L.e6_ss) (G := L.e6_G) (run_ok L.Γ_e6_ok L.Δ_e6_ok Tryz.func13 (ann := .leaf) (annOk_leaf _)) L.e6_imp
def L.Γ_b8 : Ctx := ctxC L.Γ_e6 13 L.e6_S
theorem L.Γ_b8_ok : SoundG L.pg L.Γ_b8 := ctxC_ok L.Γ_e6_ok L.e6_ok
def L.Δ_b8 : CtxO := L.Δ_e6
theorem L.Δ_b8_ok : SoundGO L.pg L.Δ_b8 := L.Δ_e6_ok
def L.b8_L1_b (culprits1 : L.yi) (v17 : Int) (v18 : Int) (out : (List Int)) (self : Int → (List Int) → Prop) (Kx0 : (List Int) → Prop) : Prop :=
  (bif (decide (v18 < v17)) then L.e3 out (fun r => (fits (r.length + ([v18] : List Int).length)) ∧ L.e6 culprits1 (r ++ ([v18] : List Int)) 0 (fun r1 => (bif (!r1) then self (i64 (v18 + 1)) (r ++ ([v18] : List Int)) else self (i64 (v18 + 1)) out))) else Kx0 out)
def L.b8_L1_R (culprits1 : L.yi) (v17 : Int) : Nat → Int → (List Int) → ((List Int) → Prop) → Prop
  | 0, _, _, _ => False
  | fu + 1, v18, out, Kx0 => L.b8_L1_b culprits1 v17 v18 out (fun v18 out => L.b8_L1_R culprits1 v17 fu v18 out Kx0) Kx0
structure L.b8_L1 (culprits1 : L.yi) (v17 : Int) (v18 : Int) (out : (List Int)) (Kx0 : (List Int) → Prop) : Prop where
  out : ∃ fu, L.b8_L1_R culprits1 v17 fu v18 out Kx0
def L.b8_L1_d : LoopD := { base := 2, vecs := [(7, .sl (.int .i64))], flds := [], keep := [1, 5, 7, 17, 18], out := [5, 7], rets := [4, 5], rv := [], rbase := 0 }
def L.b8_L1_ss : List Sh := [.ro L.ye, .cl 0 0, .vec 2, .int .i64, .int .i64]
def L.b8_L1_os : List OSh := [.cells [.int .i64, .int .i64], .cells [.int .i64, .int .i64], .vec (.int .i64) true]
def L.b8_L1_G (vs : List V) (st : List Ob) (K : Ex → St) : Prop := L.b8_L1 (gR L.ye (gA vs 0)) (gI (gA vs 3)) (gI (gA vs 4)) (oX (.int .i64) (gD st 2)) (fun q0_ => K (.exit 0) (bld [5, 7] [.cl 0 0, .vec 2] 0 34) [.cells [.xi (cI st 0 0), .xi (cI st 0 1)], .cells [.xi (cI st 1 0), .xi (cI st 1 1)], .vec (.int .i64) 0 q0_])
def L.b8_L1_F (vs : List V) (st : List Ob) (K : Ex → St) : Prop := fitF L.b8_L1_ss L.b8_L1_os vs st (L.b8_L1_G vs st K)
theorem L.b8_L1_eq (culprits1 : L.yi) (v17 : Int) (m0 : Int) (m01 : Int) (m1 : Int) (m11 : Int) (K : Ex → St) : ∀ (fu : Nat) (v18 : Int) (out : (List Int)), L.b8_L1_R culprits1 v17 fu v18 out (fun q0_ => K (.exit 0) (bld [5, 7] [.cl 0 0, .vec 2] 0 34) [.cells [.xi m0, .xi m01], .cells [.xi m1, .xi m11], .vec (.int .i64) 0 q0_]) = iterL (stepL (exec L.pg (CC L.pg L.Γ_b8 L.Δ_b8) (drawD L.pg L.Γ_b8 L.Δ_b8) .leaf (sub [true, true, true, false, true, false, false] (codeOf Tryz.f5))) 2 L.b8_L1_d K) fu (bld L.b8_L1_d.keep [.ro L.ye culprits1, .cl 0 0, .vec 2, .xi v17, .xi v18] 0 34) [.cells [.xi m0, .xi m01], .cells [.xi m1, .xi m11], .vec (.int .i64) 0 out] := by
  intro fu
  induction fu with
  | zero => intros; rfl
  | succ fu ih =>
    intro v18 out
    have e : (fun v18 out => L.b8_L1_R culprits1 v17 fu v18 out (fun q0_ => K (.exit 0) (bld [5, 7] [.cl 0 0, .vec 2] 0 34) [.cells [.xi m0, .xi m01], .cells [.xi m1, .xi m11], .vec (.int .i64) 0 q0_])) = fun v18 out => iterL (stepL (exec L.pg (CC L.pg L.Γ_b8 L.Δ_b8) (drawD L.pg L.Γ_b8 L.Δ_b8) .leaf (sub [true, true, true, false, true, false, false] (codeOf Tryz.f5))) 2 L.b8_L1_d K) fu (bld L.b8_L1_d.keep [.ro L.ye culprits1, .cl 0 0, .vec 2, .xi v17, .xi v18] 0 34) [.cells [.xi m0, .xi m01], .cells [.xi m1, .xi m11], .vec (.int .i64) 0 out] := by
      funext v18 out; exact ih v18 out
    show L.b8_L1_b culprits1 v17 v18 out (fun v18 out => L.b8_L1_R culprits1 v17 fu v18 out (fun q0_ => K (.exit 0) (bld [5, 7] [.cl 0 0, .vec 2] 0 34) [.cells [.xi m0, .xi m01], .cells [.xi m1, .xi m11], .vec (.int .i64) 0 q0_])) (fun q0_ => K (.exit 0) (bld [5, 7] [.cl 0 0, .vec 2] 0 34) [.cells [.xi m0, .xi m01], .cells [.xi m1, .xi m11], .vec (.int .i64) 0 q0_]) = _
    rw [e]
    kernel_rfl
theorem L.b8_L1_imp (vs : List V) (st : List Ob) (K : Ex → St) (h : L.b8_L1_G vs st K) : ∃ fu, iterL (stepL (exec L.pg (CC L.pg L.Γ_b8 L.Δ_b8) (drawD L.pg L.Γ_b8 L.Δ_b8) .leaf (sub [true, true, true, false, true, false, false] (codeOf Tryz.f5))) 2 L.b8_L1_d K) fu (bld L.b8_L1_d.keep (mkL L.b8_L1_ss 0 vs) 0 34) (mkOs L.b8_L1_os 0 st) :=
  exMap (fun fu h => @Eq.mp _ _ (Eq.trans (L.b8_L1_eq (gR L.ye (gA vs 0)) (gI (gA vs 3)) (cI st 0 0) (cI st 0 1) (cI st 1 0) (cI st 1 1) K fu (gI (gA vs 4)) (oX (.int .i64) (gD st 2))) (by kernel_rfl)) h) (L.b8_L1.out h)
theorem L.b8_L1_ok : AnnOk L.pg (CC L.pg L.Γ_b8 L.Δ_b8) (drawD L.pg L.Γ_b8 L.Δ_b8) 0 (.lift L.b8_L1_d 34 L.b8_L1_F) (.loop (sub [true, true, true, false, true, false, false] (codeOf Tryz.f5))) :=
  lift_ok (an := .leaf) (ss := L.b8_L1_ss) (os := L.b8_L1_os) (G := L.b8_L1_G) rfl (Nat.le_of_ble_eq_true rfl) (annOk_leaf _) (L.b8_L1_imp)
def L.b8_B (n : Int) (culprits : L.yi) (K : (List Int) → Int → Int → Prop) : Prop :=
  L.a5 n culprits (fun rCode rIndex => (bif (!((rCode == 0) && ((rIndex == 0) && true))) then K ([] : List Int) rCode rIndex else L.b8_L1 culprits n 0 ([] : List Int) (fun out => K out 0 0)))
structure L.b8 (n : Int) (culprits : L.yi) (K : (List Int) → Int → Int → Prop) : Prop where
  out : L.b8_B n culprits K
def L.b8_ss : List Sh := [.int .i64, .ro L.ye]
def L.b8_G (vs : List V) (K : V → List Ob → Prop) : Prop := L.b8 (gI (gA vs 0)) (gR L.ye (gA vs 1)) (fun r0 r1 r2 => K (.tup [.vec 0, .agg [.xi r1, .xi r2]]) [.vec (.int .i64) 0 r0])
def L.b8_S : SemF := fun args K => argF L.b8_ss args fun a => L.b8_G a K
theorem L.b8_eq (n : Int) (culprits : L.yi) (K : V → List Ob → Prop) : run L.pg L.Γ_b8 L.Δ_b8 (.node .leaf (.node .leaf (.node .leaf (.node (.node .leaf (.lift L.b8_L1_d 34 L.b8_L1_F)) .leaf)))) (.tup [.sl (.int .i64), .any]) Tryz.f5 [.xi n, .ro L.ye culprits] K = L.b8_B n culprits (fun r0 r1 r2 => K (.tup [.vec 0, .agg [.xi r1, .xi r2]]) [.vec (.int .i64) 0 r0]) := by
  kernel_rfl
theorem L.b8_imp (vs : List V) (K : V → List Ob → Prop) : Imp (L.b8_G vs K) (run L.pg L.Γ_b8 L.Δ_b8 (.node .leaf (.node .leaf (.node .leaf (.node (.node .leaf (.lift L.b8_L1_d 34 L.b8_L1_F)) .leaf)))) (.tup [.sl (.int .i64), .any]) Tryz.f5 (mkL L.b8_ss 0 vs) K) :=
  Imp.of (Eq.trans (b := run L.pg L.Γ_b8 L.Δ_b8 (.node .leaf (.node .leaf (.node .leaf (.node (.node .leaf (.lift L.b8_L1_d 34 L.b8_L1_F)) .leaf)))) (.tup [.sl (.int .i64), .any]) Tryz.f5 [.xi (gI (gA vs 0)), .ro L.ye (gR L.ye (gA vs 1))] K) (by kernel_rfl) (L.b8_eq (gI (gA vs 0)) (gR L.ye (gA vs 1)) K)) fun h => (L.b8.out h)
theorem L.b8_ok : SoundFn L.pg 5 L.b8_S :=
  fn_ok (sem := run L.pg L.Γ_b8 L.Δ_b8 (.node .leaf (.node .leaf (.node .leaf (.node (.node .leaf (.lift L.b8_L1_d 34 L.b8_L1_F)) .leaf)))) (.tup [.sl (.int .i64), .any]) Tryz.f5) (ss := L.b8_ss) (G := L.b8_G) (run_ok L.Γ_b8_ok L.Δ_b8_ok Tryz.func5 (ann := (.node .leaf (.node .leaf (.node .leaf (.node (.node .leaf (.lift L.b8_L1_d 34 L.b8_L1_F)) .leaf))))) ⟨(annOk_leaf _), ⟨(annOk_leaf _), ⟨(annOk_leaf _), ⟨⟨(annOk_leaf _), L.b8_L1_ok⟩, (annOk_leaf _)⟩⟩⟩⟩) L.b8_imp
def L.Γ_d9 : Ctx := ctxC L.Γ_b8 5 L.b8_S
theorem L.Γ_d9_ok : SoundG L.pg L.Γ_d9 := ctxC_ok L.Γ_b8_ok L.b8_ok
def L.Δ_d9 : CtxO := L.Δ_b8
theorem L.Δ_d9_ok : SoundGO L.pg L.Δ_d9 := L.Δ_b8_ok
def L.d9_L1_b (v17 : (List Int)) (v18 : Int) (r : Int) (r1 : (List Int)) (v19 : Int) (self : Int → Prop) (Kx0 : Prop) (Kr : Int → Prop) : Prop :=
  (bif (decide (v19 < v18)) then (inB v19 v17.length) ∧ (bif (bif (decide ((v17.getD v19.toNat 0) < 0)) then true else (decide ((v17.getD v19.toNat 0) ≥ r))) then Kr 3 else ((((decide (v19 > 0)) == true) = true → inB (i64 (v19 - 1)) r1.length)) ∧ (bif (bif (decide (v19 > 0)) then (decide ((v17.getD v19.toNat 0) ≤ (r1.getD ((i64 (v19 - 1)).toNat) 0))) else false) then Kr 5 else self (i64 (v19 + 1)))) else Kx0)
def L.d9_L1_R (v17 : (List Int)) (v18 : Int) (r : Int) (r1 : (List Int)) : Nat → Int → (Prop) → (Int → Prop) → Prop
  | 0, _, _, _ => False
  | fu + 1, v19, Kx0, Kr => L.d9_L1_b v17 v18 r r1 v19 (fun v19 => L.d9_L1_R v17 v18 r r1 fu v19 Kx0 Kr) Kx0 Kr
structure L.d9_L1 (v17 : (List Int)) (v18 : Int) (r : Int) (r1 : (List Int)) (v19 : Int) (Kx0 : Prop) (Kr : Int → Prop) : Prop where
  out : ∃ fu, L.d9_L1_R v17 v18 r r1 fu v19 Kx0 Kr
def L.d9_L1_d : LoopD := { base := 1, vecs := [], flds := [], keep := [3, 17, 18, 19], out := [], rets := [4], rv := [], rbase := 0 }
def L.d9_L1_ss : List Sh := [.cl 0 0, .ro (.int .i64), .int .i64, .int .i64]
def L.d9_L1_os : List OSh := [.cells [.int .i64, .ro (.int .i64)]]
def L.d9_L1_G (vs : List V) (st : List Ob) (K : Ex → St) : Prop := L.d9_L1 (gR (.int .i64) (gA vs 1)) (gI (gA vs 2)) (cI st 0 0) (gR (.int .i64) ((oC (gD st 0)).getD 1 .any)) (gI (gA vs 3)) (K (.exit 0) (bld [] [] 0 45) [.cells [.xi (cI st 0 0), .ro (.int .i64) (gR (.int .i64) ((oC (gD st 0)).getD 1 .any))]]) (fun q0_ => K .ret (bld [4] [.xi q0_] 0 45) [])
def L.d9_L1_F (vs : List V) (st : List Ob) (K : Ex → St) : Prop := fitF L.d9_L1_ss L.d9_L1_os vs st (L.d9_L1_G vs st K)
theorem L.d9_L1_eq (v17 : (List Int)) (v18 : Int) (r : Int) (r1 : (List Int)) (K : Ex → St) : ∀ (fu : Nat) (v19 : Int), L.d9_L1_R v17 v18 r r1 fu v19 (K (.exit 0) (bld [] [] 0 45) [.cells [.xi r, .ro (.int .i64) r1]]) (fun q0_ => K .ret (bld [4] [.xi q0_] 0 45) []) = iterL (stepL (exec L.pg (CC L.pg L.Γ_d9 L.Δ_d9) (drawD L.pg L.Γ_d9 L.Δ_d9) .leaf (sub [true, true, false, true, false, false] (codeOf Tryz.f33))) 1 L.d9_L1_d K) fu (bld L.d9_L1_d.keep [.cl 0 0, .ro (.int .i64) v17, .xi v18, .xi v19] 0 45) [.cells [.xi r, .ro (.int .i64) r1]] := by
  intro fu
  induction fu with
  | zero => intros; rfl
  | succ fu ih =>
    intro v19
    have e : (fun v19 => L.d9_L1_R v17 v18 r r1 fu v19 (K (.exit 0) (bld [] [] 0 45) [.cells [.xi r, .ro (.int .i64) r1]]) (fun q0_ => K .ret (bld [4] [.xi q0_] 0 45) [])) = fun v19 => iterL (stepL (exec L.pg (CC L.pg L.Γ_d9 L.Δ_d9) (drawD L.pg L.Γ_d9 L.Δ_d9) .leaf (sub [true, true, false, true, false, false] (codeOf Tryz.f33))) 1 L.d9_L1_d K) fu (bld L.d9_L1_d.keep [.cl 0 0, .ro (.int .i64) v17, .xi v18, .xi v19] 0 45) [.cells [.xi r, .ro (.int .i64) r1]] := by
      funext v19; exact ih v19
    show L.d9_L1_b v17 v18 r r1 v19 (fun v19 => L.d9_L1_R v17 v18 r r1 fu v19 (K (.exit 0) (bld [] [] 0 45) [.cells [.xi r, .ro (.int .i64) r1]]) (fun q0_ => K .ret (bld [4] [.xi q0_] 0 45) [])) (K (.exit 0) (bld [] [] 0 45) [.cells [.xi r, .ro (.int .i64) r1]]) (fun q0_ => K .ret (bld [4] [.xi q0_] 0 45) []) = _
    rw [e]
    kernel_rfl
theorem L.d9_L1_imp (vs : List V) (st : List Ob) (K : Ex → St) (h : L.d9_L1_G vs st K) : ∃ fu, iterL (stepL (exec L.pg (CC L.pg L.Γ_d9 L.Δ_d9) (drawD L.pg L.Γ_d9 L.Δ_d9) .leaf (sub [true, true, false, true, false, false] (codeOf Tryz.f33))) 1 L.d9_L1_d K) fu (bld L.d9_L1_d.keep (mkL L.d9_L1_ss 0 vs) 0 45) (mkOs L.d9_L1_os 0 st) :=
  exMap (fun fu h => @Eq.mp _ _ (Eq.trans (L.d9_L1_eq (gR (.int .i64) (gA vs 1)) (gI (gA vs 2)) (cI st 0 0) (gR (.int .i64) ((oC (gD st 0)).getD 1 .any)) K fu (gI (gA vs 3))) (by kernel_rfl)) h) (L.d9_L1.out h)
theorem L.d9_L1_ok : AnnOk L.pg (CC L.pg L.Γ_d9 L.Δ_d9) (drawD L.pg L.Γ_d9 L.Δ_d9) 0 (.lift L.d9_L1_d 45 L.d9_L1_F) (.loop (sub [true, true, false, true, false, false] (codeOf Tryz.f33))) :=
  lift_ok (an := .leaf) (ss := L.d9_L1_ss) (os := L.d9_L1_os) (G := L.d9_L1_G) rfl (Nat.le_of_ble_eq_true rfl) (annOk_leaf _) (L.d9_L1_imp)
def L.d9_B (n : Int) (r_Last : Int) (r_With : (List Int)) (K : Int → Prop) : Prop :=
  (bif (bif (decide (r_Last < 0)) then true else (decide (r_Last ≥ n))) then K 3 else L.d9_L1 r_With (r_With.length : Int) r_Last r_With 0 (K 0) (fun r => K r))
structure L.d9 (n : Int) (r_Last : Int) (r_With : (List Int)) (K : Int → Prop) : Prop where
  out : L.d9_B n r_Last r_With K
def L.d9_ss : List Sh := [.int .i64, .agg [.int .i64, .ro (.int .i64)]]
def L.d9_G (vs : List V) (K : V → List Ob → Prop) : Prop := L.d9 (gI (gA vs 0)) (gI ((gC (gA vs 1)).getD 0 .any)) (gR (.int .i64) ((gC (gA vs 1)).getD 1 .any)) (fun r0 => K (.xi r0) [])
def L.d9_S : SemF := fun args K => argF L.d9_ss args fun a => L.d9_G a K
theorem L.d9_eq (n : Int) (r_Last : Int) (r_With : (List Int)) (K : V → List Ob → Prop) : run L.pg L.Γ_d9 L.Δ_d9 (.node .leaf (.node .leaf (.node (.node .leaf (.lift L.d9_L1_d 45 L.d9_L1_F)) .leaf))) .any Tryz.f33 [.xi n, .agg [.xi r_Last, .ro (.int .i64) r_With]] K = L.d9_B n r_Last r_With (fun r0 => K (.xi r0) []) := by
  kernel_rfl
theorem L.d9_imp (vs : List V) (K : V → List Ob → Prop) : Imp (L.d9_G vs K) (run L.pg L.Γ_d9 L.Δ_d9 (.node .leaf (.node .leaf (.node (.node .leaf (.lift L.d9_L1_d 45 L.d9_L1_F)) .leaf))) .any Tryz.f33 (mkL L.d9_ss 0 vs) K) :=
  Imp.of (Eq.trans (b := run L.pg L.Γ_d9 L.Δ_d9 (.node .leaf (.node .leaf (.node (.node .leaf (.lift L.d9_L1_d 45 L.d9_L1_F)) .leaf))) .any Tryz.f33 [.xi (gI (gA vs 0)), .agg [.xi (gI ((gC (gA vs 1)).getD 0 .any)), .ro (.int .i64) (gR (.int .i64) ((gC (gA vs 1)).getD 1 .any))]] K) (by kernel_rfl) (L.d9_eq (gI (gA vs 0)) (gI ((gC (gA vs 1)).getD 0 .any)) (gR (.int .i64) ((gC (gA vs 1)).getD 1 .any)) K)) fun h => (L.d9.out h)
theorem L.d9_ok : SoundFn L.pg 33 L.d9_S :=
  fn_ok (sem := run L.pg L.Γ_d9 L.Δ_d9 (.node .leaf (.node .leaf (.node (.node .leaf (.lift L.d9_L1_d 45 L.d9_L1_F)) .leaf))) .any Tryz.f33) (ss := L.d9_ss) (G := L.d9_G) (run_ok L.Γ_d9_ok L.Δ_d9_ok Tryz.func33 (ann := (.node .leaf (.node .leaf (.node (.node .leaf (.lift L.d9_L1_d 45 L.d9_L1_F)) .leaf)))) ⟨(annOk_leaf _), ⟨(annOk_leaf _), ⟨⟨(annOk_leaf _), L.d9_L1_ok⟩, (annOk_leaf _)⟩⟩⟩) L.d9_imp
def L.Γ_a1 : Ctx := ctxC L.Γ_d9 33 L.d9_S
theorem L.Γ_a1_ok : SoundG L.pg L.Γ_a1 := ctxC_ok L.Γ_d9_ok L.d9_ok
def L.Δ_a1 : CtxO := L.Δ_d9
theorem L.Δ_a1_ok : SoundGO L.pg L.Δ_a1 := L.Δ_d9_ok
def L.a1_L1_b (s11 : (List Int)) (s21 : (List Int)) (v12 : Int) (v13 : Int) (self : Int → Prop) (Kx0 : Prop) (Kr : Bool → Prop) : Prop :=
  (bif (decide (v13 < v12)) then (inB v13 s11.length) ∧ (inB v13 s21.length) ∧ (bif ((s11.getD v13.toNat 0) != (s21.getD v13.toNat 0)) then Kr false else self (i64 (v13 + 1))) else Kx0)
def L.a1_L1_R (s11 : (List Int)) (s21 : (List Int)) (v12 : Int) : Nat → Int → (Prop) → (Bool → Prop) → Prop
  | 0, _, _, _ => False
  | fu + 1, v13, Kx0, Kr => L.a1_L1_b s11 s21 v12 v13 (fun v13 => L.a1_L1_R s11 s21 v12 fu v13 Kx0 Kr) Kx0 Kr
structure L.a1_L1 (s11 : (List Int)) (s21 : (List Int)) (v12 : Int) (v13 : Int) (Kx0 : Prop) (Kr : Bool → Prop) : Prop where
  out : ∃ fu, L.a1_L1_R s11 s21 v12 fu v13 Kx0 Kr
def L.a1_L1_d : LoopD := { base := 0, vecs := [], flds := [], keep := [0, 1, 12, 13], out := [], rets := [4], rv := [], rbase := 0 }
def L.a1_L1_ss : List Sh := [.ro (.int .i64), .ro (.int .i64), .int .i64, .int .i64]
def L.a1_L1_os : List OSh := []
def L.a1_L1_G (vs : List V) (st : List Ob) (K : Ex → St) : Prop := L.a1_L1 (gR (.int .i64) (gA vs 0)) (gR (.int .i64) (gA vs 1)) (gI (gA vs 2)) (gI (gA vs 3)) (K (.exit 0) (bld [] [] 0 26) []) (fun q0_ => K .ret (bld [4] [.x (.bool q0_)] 0 26) [])
def L.a1_L1_F (vs : List V) (st : List Ob) (K : Ex → St) : Prop := fitF L.a1_L1_ss L.a1_L1_os vs st (L.a1_L1_G vs st K)
theorem L.a1_L1_eq (s11 : (List Int)) (s21 : (List Int)) (v12 : Int) (K : Ex → St) : ∀ (fu : Nat) (v13 : Int), L.a1_L1_R s11 s21 v12 fu v13 (K (.exit 0) (bld [] [] 0 26) []) (fun q0_ => K .ret (bld [4] [.x (.bool q0_)] 0 26) []) = iterL (stepL (exec L.pg (CC L.pg L.Γ_a1 L.Δ_a1) (drawD L.pg L.Γ_a1 L.Δ_a1) .leaf (sub [true, true, false, true, false, false] (codeOf Tryz.f36))) 0 L.a1_L1_d K) fu (bld L.a1_L1_d.keep [.ro (.int .i64) s11, .ro (.int .i64) s21, .xi v12, .xi v13] 0 26) [] := by
  intro fu
  induction fu with
  | zero => intros; rfl
  | succ fu ih =>
    intro v13
    have e : (fun v13 => L.a1_L1_R s11 s21 v12 fu v13 (K (.exit 0) (bld [] [] 0 26) []) (fun q0_ => K .ret (bld [4] [.x (.bool q0_)] 0 26) [])) = fun v13 => iterL (stepL (exec L.pg (CC L.pg L.Γ_a1 L.Δ_a1) (drawD L.pg L.Γ_a1 L.Δ_a1) .leaf (sub [true, true, false, true, false, false] (codeOf Tryz.f36))) 0 L.a1_L1_d K) fu (bld L.a1_L1_d.keep [.ro (.int .i64) s11, .ro (.int .i64) s21, .xi v12, .xi v13] 0 26) [] := by
      funext v13; exact ih v13
    show L.a1_L1_b s11 s21 v12 v13 (fun v13 => L.a1_L1_R s11 s21 v12 fu v13 (K (.exit 0) (bld [] [] 0 26) []) (fun q0_ => K .ret (bld [4] [.x (.bool q0_)] 0 26) [])) (K (.exit 0) (bld [] [] 0 26) []) (fun q0_ => K .ret (bld [4] [.x (.bool q0_)] 0 26) []) = _
    rw [e]
    kernel_rfl
theorem L.a1_L1_imp (vs : List V) (st : List Ob) (K : Ex → St) (h : L.a1_L1_G vs st K) : ∃ fu, iterL (stepL (exec L.pg (CC L.pg L.Γ_a1 L.Δ_a1) (drawD L.pg L.Γ_a1 L.Δ_a1) .leaf (sub [true, true, false, true, false, false] (codeOf Tryz.f36))) 0 L.a1_L1_d K) fu (bld L.a1_L1_d.keep (mkL L.a1_L1_ss 0 vs) 0 26) (mkOs L.a1_L1_os 0 st) :=
  exMap (fun fu h => @Eq.mp _ _ (Eq.trans (L.a1_L1_eq (gR (.int .i64) (gA vs 0)) (gR (.int .i64) (gA vs 1)) (gI (gA vs 2)) K fu (gI (gA vs 3))) (by kernel_rfl)) h) (L.a1_L1.out h)
theorem L.a1_L1_ok : AnnOk L.pg (CC L.pg L.Γ_a1 L.Δ_a1) (drawD L.pg L.Γ_a1 L.Δ_a1) 0 (.lift L.a1_L1_d 26 L.a1_L1_F) (.loop (sub [true, true, false, true, false, false] (codeOf Tryz.f36))) :=
  lift_ok (an := .leaf) (ss := L.a1_L1_ss) (os := L.a1_L1_os) (G := L.a1_L1_G) rfl (Nat.le_of_ble_eq_true rfl) (annOk_leaf _) (L.a1_L1_imp)
def L.a1_B (s1 : (List Int)) (s2 : (List Int)) (K : Bool → Prop) : Prop :=
  (bif ((s1.length : Int) != (s2.length : Int)) then K false else L.a1_L1 s1 s2 (s1.length : Int) 0 (K true) (fun r => K r))
structure L.a1 (s1 : (List Int)) (s2 : (List Int)) (K : Bool → Prop) : Prop where
  out : L.a1_B s1 s2 K
def L.a1_ss : List Sh := [.ro (.int .i64), .ro (.int .i64)]
def L.a1_G (vs : List V) (K : V → List Ob → Prop) : Prop := L.a1 (gR (.int .i64) (gA vs 0)) (gR (.int .i64) (gA vs 1)) (fun r0 => K (.x (.bool r0)) [])
def L.a1_S : SemF := fun args K => argF L.a1_ss args fun a => L.a1_G a K
theorem L.a1_eq (s1 : (List Int)) (s2 : (List Int)) (K : V → List Ob → Prop) : run L.pg L.Γ_a1 L.Δ_a1 (.node .leaf (.node .leaf (.node (.node .leaf (.lift L.a1_L1_d 26 L.a1_L1_F)) .leaf))) .any Tryz.f36 [.ro (.int .i64) s1, .ro (.int .i64) s2] K = L.a1_B s1 s2 (fun r0 => K (.x (.bool r0)) []) := by
  kernel_rfl
theorem L.a1_imp (vs : List V) (K : V → List Ob → Prop) : Imp (L.a1_G vs K) (run L.pg L.Γ_a1 L.Δ_a1 (.node .leaf (.node .leaf (.node (.node .leaf (.lift L.a1_L1_d 26 L.a1_L1_F)) .leaf))) .any Tryz.f36 (mkL L.a1_ss 0 vs) K) :=
  Imp.of (Eq.trans (b := run L.pg L.Γ_a1 L.Δ_a1 (.node .leaf (.node .leaf (.node (.node .leaf (.lift L.a1_L1_d 26 L.a1_L1_F)) .leaf))) .any Tryz.f36 [.ro (.int .i64) (gR (.int .i64) (gA vs 0)), .ro (.int .i64) (gR (.int .i64) (gA vs 1))] K) (by kernel_rfl) (L.a1_eq (gR (.int .i64) (gA vs 0)) (gR (.int .i64) (gA vs 1)) K)) fun h => (L.a1.out h)
theorem L.a1_ok : SoundFn L.pg 36 L.a1_S :=
  fn_ok (sem := run L.pg L.Γ_a1 L.Δ_a1 (.node .leaf (.node .leaf (.node (.node .leaf (.lift L.a1_L1_d 26 L.a1_L1_F)) .leaf))) .any Tryz.f36) (ss := L.a1_ss) (G := L.a1_G) (run_ok L.Γ_a1_ok L.Δ_a1_ok Tryz.func36 (ann := (.node .leaf (.node .leaf (.node (.node .leaf (.lift L.a1_L1_d 26 L.a1_L1_F)) .leaf)))) ⟨(annOk_leaf _), ⟨(annOk_leaf _), ⟨⟨(annOk_leaf _), L.a1_L1_ok⟩, (annOk_leaf _)⟩⟩⟩) L.a1_imp
def L.Γ_h8 : Ctx := ctxC L.Γ_a1 36 L.a1_S
theorem L.Γ_h8_ok : SoundG L.pg L.Γ_h8 := ctxC_ok L.Γ_a1_ok L.a1_ok
def L.Δ_h8 : CtxO := L.Δ_a1
theorem L.Δ_h8_ok : SoundGO L.pg L.Δ_h8 := L.Δ_a1_ok
def L.h8_B (a_Last : Int) (a_With : (List Int)) (b_Last : Int) (b_With : (List Int)) (K : Bool → Prop) : Prop :=
  (bif (a_Last == b_Last) then L.a1 a_With b_With (fun r => K (bif true then r else false)) else K false)
structure L.h8 (a_Last : Int) (a_With : (List Int)) (b_Last : Int) (b_With : (List Int)) (K : Bool → Prop) : Prop where
  out : L.h8_B a_Last a_With b_Last b_With K
def L.h8_ss : List Sh := [.agg [.int .i64, .ro (.int .i64)], .agg [.int .i64, .ro (.int .i64)]]
def L.h8_G (vs : List V) (K : V → List Ob → Prop) : Prop := L.h8 (gI ((gC (gA vs 0)).getD 0 .any)) (gR (.int .i64) ((gC (gA vs 0)).getD 1 .any)) (gI ((gC (gA vs 1)).getD 0 .any)) (gR (.int .i64) ((gC (gA vs 1)).getD 1 .any)) (fun r0 => K (.x (.bool r0)) [])
def L.h8_S : SemF := fun args K => argF L.h8_ss args fun a => L.h8_G a K
theorem L.h8_eq (a_Last : Int) (a_With : (List Int)) (b_Last : Int) (b_With : (List Int)) (K : V → List Ob → Prop) : run L.pg L.Γ_h8 L.Δ_h8 .leaf .any Tryz.f20 [.agg [.xi a_Last, .ro (.int .i64) a_With], .agg [.xi b_Last, .ro (.int .i64) b_With]] K = L.h8_B a_Last a_With b_Last b_With (fun r0 => K (.x (.bool r0)) []) := by
  kernel_rfl
theorem L.h8_imp (vs : List V) (K : V → List Ob → Prop) : Imp (L.h8_G vs K) (run L.pg L.Γ_h8 L.Δ_h8 .leaf .any Tryz.f20 (mkL L.h8_ss 0 vs) K) :=
  Imp.of (Eq.trans (b := run L.pg L.Γ_h8 L.Δ_h8 .leaf .any Tryz.f20 [.agg [.xi (gI ((gC (gA vs 0)).getD 0 .any)), .ro (.int .i64) (gR (.int .i64) ((gC (gA vs 0)).getD 1 .any))], .agg [.xi (gI ((gC (gA vs 1)).getD 0 .any)), .ro (.int .i64) (gR (.int .i64) ((gC (gA vs 1)).getD 1 .any))]] K) (by kernel_rfl) (L.h8_eq (gI ((gC (gA vs 0)).getD 0 .any)) (gR (.int .i64) ((gC (gA vs 0)).getD 1 .any)) (gI ((gC (gA vs 1)).getD 0 .any)) (gR (.int .i64) ((gC (gA vs 1)).getD 1 .any)) K)) fun h => (L.h8.out h)
theorem L.h8_ok : SoundFn L.pg 20 L.h8_S :=
  fn_ok (sem := run L.pg L.Γ_h8 L.Δ_h8 .leaf .any Tryz.f20) (ss := L.h8_ss) (G := L.h8_G) (run_ok L.Γ_h8_ok L.Δ_h8_ok Tryz.func20 (ann := .leaf) (annOk_leaf _)) L.h8_imp
def L.Γ_g3 : Ctx := ctxC L.Γ_h8 20 L.h8_S
theorem L.Γ_g3_ok : SoundG L.pg L.Γ_g3 := ctxC_ok L.Γ_h8_ok L.h8_ok
def L.Δ_g3 : CtxO := L.Δ_h8
theorem L.Δ_g3_ok : SoundGO L.pg L.Δ_g3 := L.Δ_h8_ok
def L.g3_B (y : Int) (y1 : (List Int)) (y2 : Bool) (c : Int) (c1 : (List Int)) (c2 : Bool) (K : Bool → Prop) : Prop :=
  L.h8 c c1 y y1 (fun r => K (bif r then (!(c2 == y2)) else false))
structure L.g3 (y : Int) (y1 : (List Int)) (y2 : Bool) (c : Int) (c1 : (List Int)) (c2 : Bool) (K : Bool → Prop) : Prop where
  out : L.g3_B y y1 y2 c c1 c2 K
def L.g3_ss : List Sh := [.agg [.int .i64, .ro (.int .i64), .bool], .rc [.int .i64, .ro (.int .i64), .bool] 0]
def L.g3_G (vs : List V) (K : V → List Ob → Prop) : Prop := L.g3 (gI ((gC (gA vs 0)).getD 0 .any)) (gR (.int .i64) ((gC (gA vs 0)).getD 1 .any)) (gB ((gC (gA vs 0)).getD 2 .any)) (gI ((gC (gA vs 1)).getD 0 .any)) (gR (.int .i64) ((gC (gA vs 1)).getD 1 .any)) (gB ((gC (gA vs 1)).getD 2 .any)) (fun r0 => K (.x (.bool r0)) [])
def L.g3_S : SemF := fun args K => argF L.g3_ss args fun a => L.g3_G a K
theorem L.g3_eq (y : Int) (y1 : (List Int)) (y2 : Bool) (c : Int) (c1 : (List Int)) (c2 : Bool) (K : V → List Ob → Prop) : run L.pg L.Γ_g3 L.Δ_g3 .leaf .any Tryz.f35 [.agg [.xi y, .ro (.int .i64) y1, .x (.bool y2)], .rc [.xi c, .ro (.int .i64) c1, .x (.bool c2)] 0] K = L.g3_B y y1 y2 c c1 c2 (fun r0 => K (.x (.bool r0)) []) := by
  kernel_rfl
theorem L.g3_imp (vs : List V) (K : V → List Ob → Prop) : Imp (L.g3_G vs K) (run L.pg L.Γ_g3 L.Δ_g3 .leaf .any Tryz.f35 (mkL L.g3_ss 0 vs) K) :=
  Imp.of (Eq.trans (b := run L.pg L.Γ_g3 L.Δ_g3 .leaf .any Tryz.f35 [.agg [.xi (gI ((gC (gA vs 0)).getD 0 .any)), .ro (.int .i64) (gR (.int .i64) ((gC (gA vs 0)).getD 1 .any)), .x (.bool (gB ((gC (gA vs 0)).getD 2 .any)))], .rc [.xi (gI ((gC (gA vs 1)).getD 0 .any)), .ro (.int .i64) (gR (.int .i64) ((gC (gA vs 1)).getD 1 .any)), .x (.bool (gB ((gC (gA vs 1)).getD 2 .any)))] 0] K) (by kernel_rfl) (L.g3_eq (gI ((gC (gA vs 0)).getD 0 .any)) (gR (.int .i64) ((gC (gA vs 0)).getD 1 .any)) (gB ((gC (gA vs 0)).getD 2 .any)) (gI ((gC (gA vs 1)).getD 0 .any)) (gR (.int .i64) ((gC (gA vs 1)).getD 1 .any)) (gB ((gC (gA vs 1)).getD 2 .any)) K)) fun h => (L.g3.out h)
theorem L.g3_ok : SoundFn L.pg 35 L.g3_S :=
  fn_ok (sem := run L.pg L.Γ_g3 L.Δ_g3 .leaf .any Tryz.f35) (ss := L.g3_ss) (G := L.g3_G) (run_ok L.Γ_g3_ok L.Δ_g3_ok Tryz.func35 (ann := .leaf) (annOk_leaf _)) L.g3_imp
def L.Γ_d8 : Ctx := ctxA L.Γ_g3 35 L.g3_ss L.g3_G
theorem L.Γ_d8_ok : SoundG L.pg L.Γ_d8 := ctxA_ok L.Γ_g3_ok L.g3_ok
def L.Δ_d8 : CtxO := L.Δ_g3
theorem L.Δ_d8_ok : SoundGO L.pg L.Δ_d8 := L.Δ_g3_ok
def L.d8_L1_b (s1 : L.yg) (f3 : Int) (f4 : (List Int)) (f5 : Bool) (v7 : Int) (v8 : Int) (self : Int → Prop) (Kx0 : Prop) (Kr : Int → Prop) : Prop :=
  (bif (decide (v8 < v7)) then (inB v8 s1.length) ∧ L.g3 ((s1.getD v8.toNat ((0, []), false)).1.1) ((s1.getD v8.toNat ((0, []), false)).1.2) ((s1.getD v8.toNat ((0, []), false)).2) f3 f4 f5 (fun r => (bif r then Kr v8 else self (i64 (v8 + 1)))) else Kx0)
def L.d8_L1_R (s1 : L.yg) (f3 : Int) (f4 : (List Int)) (f5 : Bool) (v7 : Int) : Nat → Int → (Prop) → (Int → Prop) → Prop
  | 0, _, _, _ => False
  | fu + 1, v8, Kx0, Kr => L.d8_L1_b s1 f3 f4 f5 v7 v8 (fun v8 => L.d8_L1_R s1 f3 f4 f5 v7 fu v8 Kx0 Kr) Kx0 Kr
structure L.d8_L1 (s1 : L.yg) (f3 : Int) (f4 : (List Int)) (f5 : Bool) (v7 : Int) (v8 : Int) (Kx0 : Prop) (Kr : Int → Prop) : Prop where
  out : ∃ fu, L.d8_L1_R s1 f3 f4 f5 v7 fu v8 Kx0 Kr
def L.d8_L1_d : LoopD := { base := 0, vecs := [], flds := [], keep := [0, 1, 7, 8], out := [], rets := [4], rv := [], rbase := 0 }
def L.d8_L1_ss : List Sh := [.ro (.pair (.pair (.int .i64) L.ye) .bool), .fn 35 [] [.rc [.int .i64, .ro (.int .i64), .bool] 0], .int .i64, .int .i64]
def L.d8_L1_os : List OSh := []
def L.d8_L1_G (vs : List V) (st : List Ob) (K : Ex → St) : Prop := L.d8_L1 (gR (.pair (.pair (.int .i64) L.ye) .bool) (gA vs 0)) (gI ((gC ((gFc (gA vs 1)).getD 0 .any)).getD 0 .any)) (gR (.int .i64) ((gC ((gFc (gA vs 1)).getD 0 .any)).getD 1 .any)) (gB ((gC ((gFc (gA vs 1)).getD 0 .any)).getD 2 .any)) (gI (gA vs 2)) (gI (gA vs 3)) (K (.exit 0) (bld [] [] 0 19) []) (fun q0_ => K .ret (bld [4] [.xi q0_] 0 19) [])
def L.d8_L1_F (vs : List V) (st : List Ob) (K : Ex → St) : Prop := fitF L.d8_L1_ss L.d8_L1_os vs st (L.d8_L1_G vs st K)
theorem L.d8_L1_eq (s1 : L.yg) (f3 : Int) (f4 : (List Int)) (f5 : Bool) (v7 : Int) (K : Ex → St) : ∀ (fu : Nat) (v8 : Int), L.d8_L1_R s1 f3 f4 f5 v7 fu v8 (K (.exit 0) (bld [] [] 0 19) []) (fun q0_ => K .ret (bld [4] [.xi q0_] 0 19) []) = iterL (stepL (exec L.pg (CC L.pg L.Γ_d8 L.Δ_d8) (drawD L.pg L.Γ_d8 L.Δ_d8) .leaf (sub [true, false, true, false, false] (codeOf Tryz.f18))) 0 L.d8_L1_d K) fu (bld L.d8_L1_d.keep [.ro (.pair (.pair (.int .i64) L.ye) .bool) s1, .fn (.func 35) [] [.rc [.xi f3, .ro (.int .i64) f4, .x (.bool f5)] 0], .xi v7, .xi v8] 0 19) [] := by
  intro fu
  induction fu with
  | zero => intros; rfl
  | succ fu ih =>
    intro v8
    have e : (fun v8 => L.d8_L1_R s1 f3 f4 f5 v7 fu v8 (K (.exit 0) (bld [] [] 0 19) []) (fun q0_ => K .ret (bld [4] [.xi q0_] 0 19) [])) = fun v8 => iterL (stepL (exec L.pg (CC L.pg L.Γ_d8 L.Δ_d8) (drawD L.pg L.Γ_d8 L.Δ_d8) .leaf (sub [true, false, true, false, false] (codeOf Tryz.f18))) 0 L.d8_L1_d K) fu (bld L.d8_L1_d.keep [.ro (.pair (.pair (.int .i64) L.ye) .bool) s1, .fn (.func 35) [] [.rc [.xi f3, .ro (.int .i64) f4, .x (.bool f5)] 0], .xi v7, .xi v8] 0 19) [] := by
      funext v8; exact ih v8
    show L.d8_L1_b s1 f3 f4 f5 v7 v8 (fun v8 => L.d8_L1_R s1 f3 f4 f5 v7 fu v8 (K (.exit 0) (bld [] [] 0 19) []) (fun q0_ => K .ret (bld [4] [.xi q0_] 0 19) [])) (K (.exit 0) (bld [] [] 0 19) []) (fun q0_ => K .ret (bld [4] [.xi q0_] 0 19) []) = _
    rw [e]
    kernel_rfl
theorem L.d8_L1_imp (vs : List V) (st : List Ob) (K : Ex → St) (h : L.d8_L1_G vs st K) : ∃ fu, iterL (stepL (exec L.pg (CC L.pg L.Γ_d8 L.Δ_d8) (drawD L.pg L.Γ_d8 L.Δ_d8) .leaf (sub [true, false, true, false, false] (codeOf Tryz.f18))) 0 L.d8_L1_d K) fu (bld L.d8_L1_d.keep (mkL L.d8_L1_ss 0 vs) 0 19) (mkOs L.d8_L1_os 0 st) :=
  exMap (fun fu h => @Eq.mp _ _ (Eq.trans (L.d8_L1_eq (gR (.pair (.pair (.int .i64) L.ye) .bool) (gA vs 0)) (gI ((gC ((gFc (gA vs 1)).getD 0 .any)).getD 0 .any)) (gR (.int .i64) ((gC ((gFc (gA vs 1)).getD 0 .any)).getD 1 .any)) (gB ((gC ((gFc (gA vs 1)).getD 0 .any)).getD 2 .any)) (gI (gA vs 2)) K fu (gI (gA vs 3))) (by kernel_rfl)) h) (L.d8_L1.out h)
theorem L.d8_L1_ok : AnnOk L.pg (CC L.pg L.Γ_d8 L.Δ_d8) (drawD L.pg L.Γ_d8 L.Δ_d8) 0 (.lift L.d8_L1_d 19 L.d8_L1_F) (.loop (sub [true, false, true, false, false] (codeOf Tryz.f18))) :=
  lift_ok (an := .leaf) (ss := L.d8_L1_ss) (os := L.d8_L1_os) (G := L.d8_L1_G) rfl (Nat.le_of_ble_eq_true rfl) (annOk_leaf _) (L.d8_L1_imp)
def L.d8_B (s : L.yg) (f : Int) (f1 : (List Int)) (f2 : Bool) (K : Int → Prop) : Prop :=
  L.d8_L1 s f f1 f2 (s.length : Int) 0 (K (-1)) (fun r => K r)
structure L.d8 (s : L.yg) (f : Int) (f1 : (List Int)) (f2 : Bool) (K : Int → Prop) : Prop where
  out : L.d8_B s f f1 f2 K
def L.d8_ss : List Sh := [.ro (.pair (.pair (.int .i64) L.ye) .bool), .fn 35 [] [.rc [.int .i64, .ro (.int .i64), .bool] 0]]
def L.d8_G (vs : List V) (K : V → List Ob → Prop) : Prop := L.d8 (gR (.pair (.pair (.int .i64) L.ye) .bool) (gA vs 0)) (gI ((gC ((gFc (gA vs 1)).getD 0 .any)).getD 0 .any)) (gR (.int .i64) ((gC ((gFc (gA vs 1)).getD 0 .any)).getD 1 .any)) (gB ((gC ((gFc (gA vs 1)).getD 0 .any)).getD 2 .any)) (fun r0 => K (.xi r0) [])
def L.d8_S : SemF := fun args K => argF L.d8_ss args fun a => L.d8_G a K
theorem L.d8_eq (s : L.yg) (f : Int) (f1 : (List Int)) (f2 : Bool) (K : V → List Ob → Prop) : run L.pg L.Γ_d8 L.Δ_d8 (.node .leaf (.node (.node .leaf (.lift L.d8_L1_d 19 L.d8_L1_F)) .leaf)) .any Tryz.f18 [.ro (.pair (.pair (.int .i64) L.ye) .bool) s, .fn (.func 35) [] [.rc [.xi f, .ro (.int .i64) f1, .x (.bool f2)] 0]] K = L.d8_B s f f1 f2 (fun r0 => K (.xi r0) []) := by
  kernel_rfl
theorem L.d8_imp (vs : List V) (K : V → List Ob → Prop) : Imp (L.d8_G vs K) (run L.pg L.Γ_d8 L.Δ_d8 (.node .leaf (.node (.node .leaf (.lift L.d8_L1_d 19 L.d8_L1_F)) .leaf)) .any Tryz.f18 (mkL L.d8_ss 0 vs) K) :=
  Imp.of (Eq.trans (b := run L.pg L.Γ_d8 L.Δ_d8 (.node .leaf (.node (.node .leaf (.lift L.d8_L1_d 19 L.d8_L1_F)) .leaf)) .any Tryz.f18 [.ro (.pair (.pair (.int .i64) L.ye) .bool) (gR (.pair (.pair (.int .i64) L.ye) .bool) (gA vs 0)), .fn (.func 35) [] [.rc [.xi (gI ((gC ((gFc (gA vs 1)).getD 0 .any)).getD 0 .any)), .ro (.int .i64) (gR (.int .i64) ((gC ((gFc (gA vs 1)).getD 0 .any)).getD 1 .any)), .x (.bool (gB ((gC ((gFc (gA vs 1)).getD 0 .any)).getD 2 .any)))] 0]] K) (by kernel_rfl) (L.d8_eq (gR (.pair (.pair (.int .i64) L.ye) .bool) (gA vs 0)) (gI ((gC ((gFc (gA vs 1)).getD 0 .any)).getD 0 .any)) (gR (.int .i64) ((gC ((gFc (gA vs 1)).getD 0 .any)).getD 1 .any)) (gB ((gC ((gFc (gA vs 1)).getD 0 .any)).getD 2 .any)) K)) fun h => (L.d8.out h)
theorem L.d8_ok : SoundFn L.pg 18 L.d8_S :=
  fn_ok (sem := run L.pg L.Γ_d8 L.Δ_d8 (.node .leaf (.node (.node .leaf (.lift L.d8_L1_d 19 L.d8_L1_F)) .leaf)) .any Tryz.f18) (ss := L.d8_ss) (G := L.d8_G) (run_ok L.Γ_d8_ok L.Δ_d8_ok Tryz.func18 (ann := (.node .leaf (.node (.node .leaf (.lift L.d8_L1_d 19 L.d8_L1_F)) .leaf))) ⟨(annOk_leaf _), ⟨⟨(annOk_leaf _), L.d8_L1_ok⟩, (annOk_leaf _)⟩⟩) L.d8_imp
def L.Γ_g4 : Ctx := ctxA L.Γ_d8 18 L.d8_ss L.d8_G
theorem L.Γ_g4_ok : SoundG L.pg L.Γ_g4 := ctxA_ok L.Γ_d8_ok L.d8_ok
def L.Δ_g4 : CtxO := L.Δ_d8
theorem L.Δ_g4_ok : SoundGO L.pg L.Δ_g4 := L.Δ_d8_ok
def L.g4_B (s : L.yg) (f : Int) (f1 : (List Int)) (f2 : Bool) (K : Bool → Prop) : Prop :=
  L.d8 s f f1 f2 (fun r => K (decide (r ≥ 0)))
structure L.g4 (s : L.yg) (f : Int) (f1 : (List Int)) (f2 : Bool) (K : Bool → Prop) : Prop where
  out : L.g4_B s f f1 f2 K
def L.g4_ss : List Sh := [.ro (.pair (.pair (.int .i64) L.ye) .bool), .fn 35 [] [.rc [.int .i64, .ro (.int .i64), .bool] 0]]
def L.g4_G (vs : List V) (K : V → List Ob → Prop) : Prop := L.g4 (gR (.pair (.pair (.int .i64) L.ye) .bool) (gA vs 0)) (gI ((gC ((gFc (gA vs 1)).getD 0 .any)).getD 0 .any)) (gR (.int .i64) ((gC ((gFc (gA vs 1)).getD 0 .any)).getD 1 .any)) (gB ((gC ((gFc (gA vs 1)).getD 0 .any)).getD 2 .any)) (fun r0 => K (.x (.bool r0)) [])
def L.g4_S : SemF := fun args K => argF L.g4_ss args fun a => L.g4_G a K
theorem L.g4_eq (s : L.yg) (f : Int) (f1 : (List Int)) (f2 : Bool) (K : V → List Ob → Prop) : run L.pg L.Γ_g4 L.Δ_g4 .leaf .any Tryz.f34 [.ro (.pair (.pair (.int .i64) L.ye) .bool) s, .fn (.func 35) [] [.rc [.xi f, .ro (.int .i64) f1, .x (.bool f2)] 0]] K = L.g4_B s f f1 f2 (fun r0 => K (.x (.bool r0)) []) := by
  kernel_rfl
theorem L.g4_imp (vs : List V) (K : V → List Ob → Prop) : Imp (L.g4_G vs K) (run L.pg L.Γ_g4 L.Δ_g4 .leaf .any Tryz.f34 (mkL L.g4_ss 0 vs) K) :=
  Imp.of (Eq.trans (b := run L.pg L.Γ_g4 L.Δ_g4 .leaf .any Tryz.f34 [.ro (.pair (.pair (.int .i64) L.ye) .bool) (gR (.pair (.pair (.int .i64) L.ye) .bool) (gA vs 0)), .fn (.func 35) [] [.rc [.xi (gI ((gC ((gFc (gA vs 1)).getD 0 .any)).getD 0 .any)), .ro (.int .i64) (gR (.int .i64) ((gC ((gFc (gA vs 1)).getD 0 .any)).getD 1 .any)), .x (.bool (gB ((gC ((gFc (gA vs 1)).getD 0 .any)).getD 2 .any)))] 0]] K) (by kernel_rfl) (L.g4_eq (gR (.pair (.pair (.int .i64) L.ye) .bool) (gA vs 0)) (gI ((gC ((gFc (gA vs 1)).getD 0 .any)).getD 0 .any)) (gR (.int .i64) ((gC ((gFc (gA vs 1)).getD 0 .any)).getD 1 .any)) (gB ((gC ((gFc (gA vs 1)).getD 0 .any)).getD 2 .any)) K)) fun h => (L.g4.out h)
theorem L.g4_ok : SoundFn L.pg 34 L.g4_S :=
  fn_ok (sem := run L.pg L.Γ_g4 L.Δ_g4 .leaf .any Tryz.f34) (ss := L.g4_ss) (G := L.g4_G) (run_ok L.Γ_g4_ok L.Δ_g4_ok Tryz.func34 (ann := .leaf) (annOk_leaf _)) L.g4_imp
def L.Γ_a8 : Ctx := ctxA L.Γ_g4 34 L.g4_ss L.g4_G
theorem L.Γ_a8_ok : SoundG L.pg L.Γ_a8 := ctxA_ok L.Γ_g4_ok L.g4_ok
def L.Δ_a8 : CtxO := L.Δ_g4
theorem L.Δ_a8_ok : SoundGO L.pg L.Δ_a8 := L.Δ_g4_ok
def L.a8_L1_b (n1 : Int) (results1 : L.yg) (v19 : L.yg) (v20 : Int) (v21 : Int) (self : Int → Prop) (Kx0 : Prop) (Kr : Int → Int → Prop) : Prop :=
  (bif (decide (v21 < v20)) then (inB v21 v19.length) ∧ L.d9 n1 ((v19.getD v21.toNat ((0, []), false)).1.1) ((v19.getD v21.toNat ((0, []), false)).1.2) (fun r => (bif (r != 0) then Kr r v21 else (0 ≤ v21 ∧ v21 ≤ results1.length) ∧ L.g4 (results1.take v21.toNat) ((v19.getD v21.toNat ((0, []), false)).1.1) ((v19.getD v21.toNat ((0, []), false)).1.2) ((v19.getD v21.toNat ((0, []), false)).2) (fun r1 => (bif r1 then Kr 19 v21 else self (i64 (v21 + 1)))))) else Kx0)
def L.a8_L1_R (n1 : Int) (results1 : L.yg) (v19 : L.yg) (v20 : Int) : Nat → Int → (Prop) → (Int → Int → Prop) → Prop
  | 0, _, _, _ => False
  | fu + 1, v21, Kx0, Kr => L.a8_L1_b n1 results1 v19 v20 v21 (fun v21 => L.a8_L1_R n1 results1 v19 v20 fu v21 Kx0 Kr) Kx0 Kr
structure L.a8_L1 (n1 : Int) (results1 : L.yg) (v19 : L.yg) (v20 : Int) (v21 : Int) (Kx0 : Prop) (Kr : Int → Int → Prop) : Prop where
  out : ∃ fu, L.a8_L1_R n1 results1 v19 v20 fu v21 Kx0 Kr
def L.a8_L1_d : LoopD := { base := 1, vecs := [], flds := [], keep := [0, 1, 4, 19, 20, 21], out := [4], rets := [4], rv := [], rbase := 0 }
def L.a8_L1_ss : List Sh := [.int .i64, .ro (.pair (.pair (.int .i64) L.ye) .bool), .cl 0 0, .ro (.pair (.pair (.int .i64) L.ye) .bool), .int .i64, .int .i64]
def L.a8_L1_os : List OSh := [.cells [.int .i64, .int .i64]]
def L.a8_L1_G (vs : List V) (st : List Ob) (K : Ex → St) : Prop := L.a8_L1 (gI (gA vs 0)) (gR (.pair (.pair (.int .i64) L.ye) .bool) (gA vs 1)) (gR (.pair (.pair (.int .i64) L.ye) .bool) (gA vs 3)) (gI (gA vs 4)) (gI (gA vs 5)) (K (.exit 0) (bld [4] [.cl 0 0] 0 44) [.cells [.xi (cI st 0 0), .xi (cI st 0 1)]]) (fun q0_ q1_ => K .ret (bld [4] [.cl 0 0] 0 44) [.cells [.xi q0_, .xi q1_]])
def L.a8_L1_F (vs : List V) (st : List Ob) (K : Ex → St) : Prop := fitF L.a8_L1_ss L.a8_L1_os vs st (L.a8_L1_G vs st K)
theorem L.a8_L1_eq (n1 : Int) (results1 : L.yg) (v19 : L.yg) (v20 : Int) (m0 : Int) (m01 : Int) (K : Ex → St) : ∀ (fu : Nat) (v21 : Int), L.a8_L1_R n1 results1 v19 v20 fu v21 (K (.exit 0) (bld [4] [.cl 0 0] 0 44) [.cells [.xi m0, .xi m01]]) (fun q0_ q1_ => K .ret (bld [4] [.cl 0 0] 0 44) [.cells [.xi q0_, .xi q1_]]) = iterL (stepL (exec L.pg (CC L.pg L.Γ_a8 L.Δ_a8) (drawD L.pg L.Γ_a8 L.Δ_a8) .leaf (sub [true, true, true, false, true, false, false] (codeOf Tryz.f17))) 1 L.a8_L1_d K) fu (bld L.a8_L1_d.keep [.xi n1, .ro (.pair (.pair (.int .i64) L.ye) .bool) results1, .cl 0 0, .ro (.pair (.pair (.int .i64) L.ye) .bool) v19, .xi v20, .xi v21] 0 44) [.cells [.xi m0, .xi m01]] := by
  intro fu
  induction fu with
  | zero => intros; rfl
  | succ fu ih =>
    intro v21
    have e : (fun v21 => L.a8_L1_R n1 results1 v19 v20 fu v21 (K (.exit 0) (bld [4] [.cl 0 0] 0 44) [.cells [.xi m0, .xi m01]]) (fun q0_ q1_ => K .ret (bld [4] [.cl 0 0] 0 44) [.cells [.xi q0_, .xi q1_]])) = fun v21 => iterL (stepL (exec L.pg (CC L.pg L.Γ_a8 L.Δ_a8) (drawD L.pg L.Γ_a8 L.Δ_a8) .leaf (sub [true, true, true, false, true, false, false] (codeOf Tryz.f17))) 1 L.a8_L1_d K) fu (bld L.a8_L1_d.keep [.xi n1, .ro (.pair (.pair (.int .i64) L.ye) .bool) results1, .cl 0 0, .ro (.pair (.pair (.int .i64) L.ye) .bool) v19, .xi v20, .xi v21] 0 44) [.cells [.xi m0, .xi m01]] := by
      funext v21; exact ih v21
    show L.a8_L1_b n1 results1 v19 v20 v21 (fun v21 => L.a8_L1_R n1 results1 v19 v20 fu v21 (K (.exit 0) (bld [4] [.cl 0 0] 0 44) [.cells [.xi m0, .xi m01]]) (fun q0_ q1_ => K .ret (bld [4] [.cl 0 0] 0 44) [.cells [.xi q0_, .xi q1_]])) (K (.exit 0) (bld [4] [.cl 0 0] 0 44) [.cells [.xi m0, .xi m01]]) (fun q0_ q1_ => K .ret (bld [4] [.cl 0 0] 0 44) [.cells [.xi q0_, .xi q1_]]) = _
    rw [e]
    kernel_rfl
theorem L.a8_L1_imp (vs : List V) (st : List Ob) (K : Ex → St) (h : L.a8_L1_G vs st K) : ∃ fu, iterL (stepL (exec L.pg (CC L.pg L.Γ_a8 L.Δ_a8) (drawD L.pg L.Γ_a8 L.Δ_a8) .leaf (sub [true, true, true, false, true, false, false] (codeOf Tryz.f17))) 1 L.a8_L1_d K) fu (bld L.a8_L1_d.keep (mkL L.a8_L1_ss 0 vs) 0 44) (mkOs L.a8_L1_os 0 st) :=
  exMap (fun fu h => @Eq.mp _ _ (Eq.trans (L.a8_L1_eq (gI (gA vs 0)) (gR (.pair (.pair (.int .i64) L.ye) .bool) (gA vs 1)) (gR (.pair (.pair (.int .i64) L.ye) .bool) (gA vs 3)) (gI (gA vs 4)) (cI st 0 0) (cI st 0 1) K fu (gI (gA vs 5))) (by kernel_rfl)) h) (L.a8_L1.out h)
theorem L.a8_L1_ok : AnnOk L.pg (CC L.pg L.Γ_a8 L.Δ_a8) (drawD L.pg L.Γ_a8 L.Δ_a8) 0 (.lift L.a8_L1_d 44 L.a8_L1_F) (.loop (sub [true, true, true, false, true, false, false] (codeOf Tryz.f17))) :=
  lift_ok (an := .leaf) (ss := L.a8_L1_ss) (os := L.a8_L1_os) (G := L.a8_L1_G) rfl (Nat.le_of_ble_eq_true rfl) (annOk_leaf _) (L.a8_L1_imp)
def L.a8_B (n : Int) (results : L.yg) (K : Int → Int → Prop) : Prop :=
  (bif (bif (decide (n < 0)) then true else (decide (n > 8))) then K 3 (-2) else (bif (decide ((results.length : Int) > 16)) then K 2 (-1) else L.a8_L1 n results results (results.length : Int) 0 (K 0 0) (fun m m1 => K m m1)))
structure L.a8 (n : Int) (results : L.yg) (K : Int → Int → Prop) : Prop where
  out : L.a8_B n results K
def L.a8_ss : List Sh := [.int .i64, .ro (.pair (.pair (.int .i64) L.ye) .bool)]
def L.a8_G (vs : List V) (K : V → List Ob → Prop) : Prop := L.a8 (gI (gA vs 0)) (gR (.pair (.pair (.int .i64) L.ye) .bool) (gA vs 1)) (fun r0 r1 => K (.agg [.xi r0, .xi r1]) [])
def L.a8_S : SemF := fun args K => argF L.a8_ss args fun a => L.a8_G a K
theorem L.a8_eq (n : Int) (results : L.yg) (K : V → List Ob → Prop) : run L.pg L.Γ_a8 L.Δ_a8 (.node .leaf (.node .leaf (.node .leaf (.node (.node .leaf (.lift L.a8_L1_d 44 L.a8_L1_F)) .leaf)))) .any Tryz.f17 [.xi n, .ro (.pair (.pair (.int .i64) L.ye) .bool) results] K = L.a8_B n results (fun r0 r1 => K (.agg [.xi r0, .xi r1]) []) := by
  kernel_rfl
theorem L.a8_imp (vs : List V) (K : V → List Ob → Prop) : Imp (L.a8_G vs K) (run L.pg L.Γ_a8 L.Δ_a8 (.node .leaf (.node .leaf (.node .leaf (.node (.node .leaf (.lift L.a8_L1_d 44 L.a8_L1_F)) .leaf)))) .any Tryz.f17 (mkL L.a8_ss 0 vs) K) :=
  Imp.of (Eq.trans (b := run L.pg L.Γ_a8 L.Δ_a8 (.node .leaf (.node .leaf (.node .leaf (.node (.node .leaf (.lift L.a8_L1_d 44 L.a8_L1_F)) .leaf)))) .any Tryz.f17 [.xi (gI (gA vs 0)), .ro (.pair (.pair (.int .i64) L.ye) .bool) (gR (.pair (.pair (.int .i64) L.ye) .bool) (gA vs 1))] K) (by kernel_rfl) (L.a8_eq (gI (gA vs 0)) (gR (.pair (.pair (.int .i64) L.ye) .bool) (gA vs 1)) K)) fun h => (L.a8.out h)
theorem L.a8_ok : SoundFn L.pg 17 L.a8_S :=
  fn_ok (sem := run L.pg L.Γ_a8 L.Δ_a8 (.node .leaf (.node .leaf (.node .leaf (.node (.node .leaf (.lift L.a8_L1_d 44 L.a8_L1_F)) .leaf)))) .any Tryz.f17) (ss := L.a8_ss) (G := L.a8_G) (run_ok L.Γ_a8_ok L.Δ_a8_ok Tryz.func17 (ann := (.node .leaf (.node .leaf (.node .leaf (.node (.node .leaf (.lift L.a8_L1_d 44 L.a8_L1_F)) .leaf))))) ⟨(annOk_leaf _), ⟨(annOk_leaf _), ⟨(annOk_leaf _), ⟨⟨(annOk_leaf _), L.a8_L1_ok⟩, (annOk_leaf _)⟩⟩⟩⟩) L.a8_imp
def L.Γ_h4 : Ctx := ctxC L.Γ_a8 17 L.a8_S
theorem L.Γ_h4_ok : SoundG L.pg L.Γ_h4 := ctxC_ok L.Γ_a8_ok L.a8_ok
def L.Δ_h4 : CtxO := L.Δ_a8
theorem L.Δ_h4_ok : SoundGO L.pg L.Δ_h4 := L.Δ_a8_ok
def L.h4_B (x : Int) (x1 : (List Int)) (x2 : Bool) (c : Int) (c1 : (List Int)) (K : Bool → Prop) : Prop :=
  L.h8 x x1 c c1 (fun r => K r)
structure L.h4 (x : Int) (x1 : (List Int)) (x2 : Bool) (c : Int) (c1 : (List Int)) (K : Bool → Prop) : Prop where
  out : L.h4_B x x1 x2 c c1 K
def L.h4_ss : List Sh := [.agg [.int .i64, .ro (.int .i64), .bool], .rc [.int .i64, .ro (.int .i64)] 0]
def L.h4_G (vs : List V) (K : V → List Ob → Prop) : Prop := L.h4 (gI ((gC (gA vs 0)).getD 0 .any)) (gR (.int .i64) ((gC (gA vs 0)).getD 1 .any)) (gB ((gC (gA vs 0)).getD 2 .any)) (gI ((gC (gA vs 1)).getD 0 .any)) (gR (.int .i64) ((gC (gA vs 1)).getD 1 .any)) (fun r0 => K (.x (.bool r0)) [])
def L.h4_S : SemF := fun args K => argF L.h4_ss args fun a => L.h4_G a K
theorem L.h4_eq (x : Int) (x1 : (List Int)) (x2 : Bool) (c : Int) (c1 : (List Int)) (K : V → List Ob → Prop) : run L.pg L.Γ_h4 L.Δ_h4 .leaf .any Tryz.f19 [.agg [.xi x, .ro (.int .i64) x1, .x (.bool x2)], .rc [.xi c, .ro (.int .i64) c1] 0] K = L.h4_B x x1 x2 c c1 (fun r0 => K (.x (.bool r0)) []) := by
  kernel_rfl
theorem L.h4_imp (vs : List V) (K : V → List Ob → Prop) : Imp (L.h4_G vs K) (run L.pg L.Γ_h4 L.Δ_h4 .leaf .any Tryz.f19 (mkL L.h4_ss 0 vs) K) :=
  Imp.of (Eq.trans (b := run L.pg L.Γ_h4 L.Δ_h4 .leaf .any Tryz.f19 [.agg [.xi (gI ((gC (gA vs 0)).getD 0 .any)), .ro (.int .i64) (gR (.int .i64) ((gC (gA vs 0)).getD 1 .any)), .x (.bool (gB ((gC (gA vs 0)).getD 2 .any)))], .rc [.xi (gI ((gC (gA vs 1)).getD 0 .any)), .ro (.int .i64) (gR (.int .i64) ((gC (gA vs 1)).getD 1 .any))] 0] K) (by kernel_rfl) (L.h4_eq (gI ((gC (gA vs 0)).getD 0 .any)) (gR (.int .i64) ((gC (gA vs 0)).getD 1 .any)) (gB ((gC (gA vs 0)).getD 2 .any)) (gI ((gC (gA vs 1)).getD 0 .any)) (gR (.int .i64) ((gC (gA vs 1)).getD 1 .any)) K)) fun h => (L.h4.out h)
theorem L.h4_ok : SoundFn L.pg 19 L.h4_S :=
  fn_ok (sem := run L.pg L.Γ_h4 L.Δ_h4 .leaf .any Tryz.f19) (ss := L.h4_ss) (G := L.h4_G) (run_ok L.Γ_h4_ok L.Δ_h4_ok Tryz.func19 (ann := .leaf) (annOk_leaf _)) L.h4_imp
def L.Γ_d7 : Ctx := ctxA L.Γ_h4 19 L.h4_ss L.h4_G
theorem L.Γ_d7_ok : SoundG L.pg L.Γ_d7 := ctxA_ok L.Γ_h4_ok L.h4_ok
def L.Δ_d7 : CtxO := L.Δ_h4
theorem L.Δ_d7_ok : SoundGO L.pg L.Δ_d7 := L.Δ_h4_ok
def L.d7_L1_b (s1 : L.yg) (f2 : Int) (f3 : (List Int)) (v7 : Int) (v8 : Int) (self : Int → Prop) (Kx0 : Prop) (Kr : Int → Prop) : Prop :=
  (bif (decide (v8 < v7)) then (inB v8 s1.length) ∧ L.h4 ((s1.getD v8.toNat ((0, []), false)).1.1) ((s1.getD v8.toNat ((0, []), false)).1.2) ((s1.getD v8.toNat ((0, []), false)).2) f2 f3 (fun r => (bif r then Kr v8 else self (i64 (v8 + 1)))) else Kx0)
def L.d7_L1_R (s1 : L.yg) (f2 : Int) (f3 : (List Int)) (v7 : Int) : Nat → Int → (Prop) → (Int → Prop) → Prop
  | 0, _, _, _ => False
  | fu + 1, v8, Kx0, Kr => L.d7_L1_b s1 f2 f3 v7 v8 (fun v8 => L.d7_L1_R s1 f2 f3 v7 fu v8 Kx0 Kr) Kx0 Kr
structure L.d7_L1 (s1 : L.yg) (f2 : Int) (f3 : (List Int)) (v7 : Int) (v8 : Int) (Kx0 : Prop) (Kr : Int → Prop) : Prop where
  out : ∃ fu, L.d7_L1_R s1 f2 f3 v7 fu v8 Kx0 Kr
def L.d7_L1_d : LoopD := { base := 0, vecs := [], flds := [], keep := [0, 1, 7, 8], out := [], rets := [4], rv := [], rbase := 0 }
def L.d7_L1_ss : List Sh := [.ro (.pair (.pair (.int .i64) L.ye) .bool), .fn 19 [] [.rc [.int .i64, .ro (.int .i64)] 0], .int .i64, .int .i64]
def L.d7_L1_os : List OSh := []
def L.d7_L1_G (vs : List V) (st : List Ob) (K : Ex → St) : Prop := L.d7_L1 (gR (.pair (.pair (.int .i64) L.ye) .bool) (gA vs 0)) (gI ((gC ((gFc (gA vs 1)).getD 0 .any)).getD 0 .any)) (gR (.int .i64) ((gC ((gFc (gA vs 1)).getD 0 .any)).getD 1 .any)) (gI (gA vs 2)) (gI (gA vs 3)) (K (.exit 0) (bld [] [] 0 19) []) (fun q0_ => K .ret (bld [4] [.xi q0_] 0 19) [])
def L.d7_L1_F (vs : List V) (st : List Ob) (K : Ex → St) : Prop := fitF L.d7_L1_ss L.d7_L1_os vs st (L.d7_L1_G vs st K)
theorem L.d7_L1_eq (s1 : L.yg) (f2 : Int) (f3 : (List Int)) (v7 : Int) (K : Ex → St) : ∀ (fu : Nat) (v8 : Int), L.d7_L1_R s1 f2 f3 v7 fu v8 (K (.exit 0) (bld [] [] 0 19) []) (fun q0_ => K .ret (bld [4] [.xi q0_] 0 19) []) = iterL (stepL (exec L.pg (CC L.pg L.Γ_d7 L.Δ_d7) (drawD L.pg L.Γ_d7 L.Δ_d7) .leaf (sub [true, false, true, false, false] (codeOf Tryz.f18))) 0 L.d7_L1_d K) fu (bld L.d7_L1_d.keep [.ro (.pair (.pair (.int .i64) L.ye) .bool) s1, .fn (.func 19) [] [.rc [.xi f2, .ro (.int .i64) f3] 0], .xi v7, .xi v8] 0 19) [] := by
  intro fu
  induction fu with
  | zero => intros; rfl
  | succ fu ih =>
    intro v8
    have e : (fun v8 => L.d7_L1_R s1 f2 f3 v7 fu v8 (K (.exit 0) (bld [] [] 0 19) []) (fun q0_ => K .ret (bld [4] [.xi q0_] 0 19) [])) = fun v8 => iterL (stepL (exec L.pg (CC L.pg L.Γ_d7 L.Δ_d7) (drawD L.pg L.Γ_d7 L.Δ_d7) .leaf (sub [true, false, true, false, false] (codeOf Tryz.f18))) 0 L.d7_L1_d K) fu (bld L.d7_L1_d.keep [.ro (.pair (.pair (.int .i64) L.ye) .bool) s1, .fn (.func 19) [] [.rc [.xi f2, .ro (.int .i64) f3] 0], .xi v7, .xi v8] 0 19) [] := by
      funext v8; exact ih v8
    show L.d7_L1_b s1 f2 f3 v7 v8 (fun v8 => L.d7_L1_R s1 f2 f3 v7 fu v8 (K (.exit 0) (bld [] [] 0 19) []) (fun q0_ => K .ret (bld [4] [.xi q0_] 0 19) [])) (K (.exit 0) (bld [] [] 0 19) []) (fun q0_ => K .ret (bld [4] [.xi q0_] 0 19) []) = _
    rw [e]
    kernel_rfl
theorem L.d7_L1_imp (vs : List V) (st : List Ob) (K : Ex → St) (h : L.d7_L1_G vs st K) : ∃ fu, iterL (stepL (exec L.pg (CC L.pg L.Γ_d7 L.Δ_d7) (drawD L.pg L.Γ_d7 L.Δ_d7) .leaf (sub [true, false, true, false, false] (codeOf Tryz.f18))) 0 L.d7_L1_d K) fu (bld L.d7_L1_d.keep (mkL L.d7_L1_ss 0 vs) 0 19) (mkOs L.d7_L1_os 0 st) :=
  exMap (fun fu h => @Eq.mp _ _ (Eq.trans (L.d7_L1_eq (gR (.pair (.pair (.int .i64) L.ye) .bool) (gA vs 0)) (gI ((gC ((gFc (gA vs 1)).getD 0 .any)).getD 0 .any)) (gR (.int .i64) ((gC ((gFc (gA vs 1)).getD 0 .any)).getD 1 .any)) (gI (gA vs 2)) K fu (gI (gA vs 3))) (by kernel_rfl)) h) (L.d7_L1.out h)
theorem L.d7_L1_ok : AnnOk L.pg (CC L.pg L.Γ_d7 L.Δ_d7) (drawD L.pg L.Γ_d7 L.Δ_d7) 0 (.lift L.d7_L1_d 19 L.d7_L1_F) (.loop (sub [true, false, true, false, false] (codeOf Tryz.f18))) :=
  lift_ok (an := .leaf) (ss := L.d7_L1_ss) (os := L.d7_L1_os) (G := L.d7_L1_G) rfl (Nat.le_of_ble_eq_true rfl) (annOk_leaf _) (L.d7_L1_imp)
def L.d7_B (s : L.yg) (f : Int) (f1 : (List Int)) (K : Int → Prop) : Prop :=
  L.d7_L1 s f f1 (s.length : Int) 0 (K (-1)) (fun r => K r)
structure L.d7 (s : L.yg) (f : Int) (f1 : (List Int)) (K : Int → Prop) : Prop where
  out : L.d7_B s f f1 K
def L.d7_ss : List Sh := [.ro (.pair (.pair (.int .i64) L.ye) .bool), .fn 19 [] [.rc [.int .i64, .ro (.int .i64)] 0]]
def L.d7_G (vs : List V) (K : V → List Ob → Prop) : Prop := L.d7 (gR (.pair (.pair (.int .i64) L.ye) .bool) (gA vs 0)) (gI ((gC ((gFc (gA vs 1)).getD 0 .any)).getD 0 .any)) (gR (.int .i64) ((gC ((gFc (gA vs 1)).getD 0 .any)).getD 1 .any)) (fun r0 => K (.xi r0) [])
def L.d7_S : SemF := fun args K => argF L.d7_ss args fun a => L.d7_G a K
theorem L.d7_eq (s : L.yg) (f : Int) (f1 : (List Int)) (K : V → List Ob → Prop) : run L.pg L.Γ_d7 L.Δ_d7 (.node .leaf (.node (.node .leaf (.lift L.d7_L1_d 19 L.d7_L1_F)) .leaf)) .any Tryz.f18 [.ro (.pair (.pair (.int .i64) L.ye) .bool) s, .fn (.func 19) [] [.rc [.xi f, .ro (.int .i64) f1] 0]] K = L.d7_B s f f1 (fun r0 => K (.xi r0) []) := by
  kernel_rfl
theorem L.d7_imp (vs : List V) (K : V → List Ob → Prop) : Imp (L.d7_G vs K) (run L.pg L.Γ_d7 L.Δ_d7 (.node .leaf (.node (.node .leaf (.lift L.d7_L1_d 19 L.d7_L1_F)) .leaf)) .any Tryz.f18 (mkL L.d7_ss 0 vs) K) :=
  Imp.of (Eq.trans (b := run L.pg L.Γ_d7 L.Δ_d7 (.node .leaf (.node (.node .leaf (.lift L.d7_L1_d 19 L.d7_L1_F)) .leaf)) .any Tryz.f18 [.ro (.pair (.pair (.int .i64) L.ye) .bool) (gR (.pair (.pair (.int .i64) L.ye) .bool) (gA vs 0)), .fn (.func 19) [] [.rc [.xi (gI ((gC ((gFc (gA vs 1)).getD 0 .any)).getD 0 .any)), .ro (.int .i64) (gR (.int .i64) ((gC ((gFc (gA vs 1)).getD 0 .any)).getD 1 .any))] 0]] K) (by kernel_rfl) (L.d7_eq (gR (.pair (.pair (.int .i64) L.ye) .bool) (gA vs 0)) (gI ((gC ((gFc (gA vs 1)).getD 0 .any)).getD 0 .any)) (gR (.int .i64) ((gC ((gFc (gA vs 1)).getD 0 .any)).getD 1 .any)) K)) fun h => (L.d7.out h)
theorem L.d7_ok : SoundFn L.pg 18 L.d7_S :=
  fn_ok (sem := run L.pg L.Γ_d7 L.Δ_d7 (.node .leaf (.node (.node .leaf (.lift L.d7_L1_d 19 L.d7_L1_F)) .leaf)) .any Tryz.f18) (ss := L.d7_ss) (G := L.d7_G) (run_ok L.Γ_d7_ok L.Δ_d7_ok Tryz.func18 (ann := (.node .leaf (.node (.node .leaf (.lift L.d7_L1_d 19 L.d7_L1_F)) .leaf))) ⟨(annOk_leaf _), ⟨⟨(annOk_leaf _), L.d7_L1_ok⟩, (annOk_leaf _)⟩⟩) L.d7_imp
def L.Γ_a7 : Ctx := ctxA L.Γ_d7 18 L.d7_ss L.d7_G
theorem L.Γ_a7_ok : SoundG L.pg L.Γ_a7 := ctxA_ok L.Γ_d7_ok L.d7_ok
def L.Δ_a7 : CtxO := L.Δ_d7
theorem L.Δ_a7_ok : SoundGO L.pg L.Δ_a7 := L.Δ_d7_ok
def L.a7_L1_b (results1 : L.yg) (v20 : Int) (v21 : Int) (landed : (List Int)) (rejected : (List Int)) (self : Int → (List Int) → (List Int) → Prop) (Kx0 : (List Int) → (List Int) → Prop) (Kr : (List Int) → (List Int) → Int → Int → Prop) : Prop :=
  (bif (decide (v21 < v20)) then L.d7 results1 v21 landed (fun r => (bif (decide (r < 0)) then Kr landed rejected 0 0 else (inB r results1.length) ∧ (bif (results1.getD r.toNat ((0, []), false)).2 then (fits (landed.length + ([v21] : List Int).length)) ∧ self (i64 (v21 + 1)) (landed ++ ([v21] : List Int)) rejected else (fits (rejected.length + ([v21] : List Int).length)) ∧ self (i64 (v21 + 1)) landed (rejected ++ ([v21] : List Int))))) else Kx0 landed rejected)
def L.a7_L1_R (results1 : L.yg) (v20 : Int) : Nat → Int → (List Int) → (List Int) → ((List Int) → (List Int) → Prop) → ((List Int) → (List Int) → Int → Int → Prop) → Prop
  | 0, _, _, _, _, _ => False
  | fu + 1, v21, landed, rejected, Kx0, Kr => L.a7_L1_b results1 v20 v21 landed rejected (fun v21 landed rejected => L.a7_L1_R results1 v20 fu v21 landed rejected Kx0 Kr) Kx0 Kr
structure L.a7_L1 (results1 : L.yg) (v20 : Int) (v21 : Int) (landed : (List Int)) (rejected : (List Int)) (Kx0 : (List Int) → (List Int) → Prop) (Kr : (List Int) → (List Int) → Int → Int → Prop) : Prop where
  out : ∃ fu, L.a7_L1_R results1 v20 fu v21 landed rejected Kx0 Kr
def L.a7_L1_d : LoopD := { base := 2, vecs := [(8, .sl (.int .i64)), (9, .sl (.int .i64))], flds := [], keep := [1, 6, 8, 9, 20, 21], out := [6, 8, 9], rets := [4, 5, 6], rv := [], rbase := 0 }
def L.a7_L1_ss : List Sh := [.ro (.pair (.pair (.int .i64) L.ye) .bool), .cl 0 0, .vec 2, .vec 3, .int .i64, .int .i64]
def L.a7_L1_os : List OSh := [.cells [.int .i64, .int .i64], .cells [.int .i64, .int .i64], .vec (.int .i64) true, .vec (.int .i64) true]
def L.a7_L1_G (vs : List V) (st : List Ob) (K : Ex → St) : Prop := L.a7_L1 (gR (.pair (.pair (.int .i64) L.ye) .bool) (gA vs 0)) (gI (gA vs 4)) (gI (gA vs 5)) (oX (.int .i64) (gD st 2)) (oX (.int .i64) (gD st 3)) (fun q0_ q1_ => K (.exit 0) (bld [6, 8, 9] [.cl 0 0, .vec 2, .vec 3] 0 54) [.cells [.xi (cI st 0 0), .xi (cI st 0 1)], .cells [.xi (cI st 1 0), .xi (cI st 1 1)], .vec (.int .i64) 0 q0_, .vec (.int .i64) 0 q1_]) (fun q0_ q1_ q2_ q3_ => K .ret (bld [4, 5, 6] [.vec 0, .vec 1, .cl 2 0] 0 54) [.vec (.int .i64) 0 q0_, .vec (.int .i64) 0 q1_, .cells [.xi q2_, .xi q3_]])
def L.a7_L1_F (vs : List V) (st : List Ob) (K : Ex → St) : Prop := fitF L.a7_L1_ss L.a7_L1_os vs st (L.a7_L1_G vs st K)
theorem L.a7_L1_eq (results1 : L.yg) (v20 : Int) (m0 : Int) (m01 : Int) (m1 : Int) (m11 : Int) (K : Ex → St) : ∀ (fu : Nat) (v21 : Int) (landed : (List Int)) (rejected : (List Int)), L.a7_L1_R results1 v20 fu v21 landed rejected (fun q0_ q1_ => K (.exit 0) (bld [6, 8, 9] [.cl 0 0, .vec 2, .vec 3] 0 54) [.cells [.xi m0, .xi m01], .cells [.xi m1, .xi m11], .vec (.int .i64) 0 q0_, .vec (.int .i64) 0 q1_]) (fun q0_ q1_ q2_ q3_ => K .ret (bld [4, 5, 6] [.vec 0, .vec 1, .cl 2 0] 0 54) [.vec (.int .i64) 0 q0_, .vec (.int .i64) 0 q1_, .cells [.xi q2_, .xi q3_]]) = iterL (stepL (exec L.pg (CC L.pg L.Γ_a7 L.Δ_a7) (drawD L.pg L.Γ_a7 L.Δ_a7) .leaf (sub [true, true, true, false, true, false, false] (codeOf Tryz.f9))) 2 L.a7_L1_d K) fu (bld L.a7_L1_d.keep [.ro (.pair (.pair (.int .i64) L.ye) .bool) results1, .cl 0 0, .vec 2, .vec 3, .xi v20, .xi v21] 0 54) [.cells [.xi m0, .xi m01], .cells [.xi m1, .xi m11], .vec (.int .i64) 0 landed, .vec (.int .i64) 0 rejected] := by
  intro fu
  induction fu with
  | zero => intros; rfl
  | succ fu ih =>
    intro v21 landed rejected
    have e : (fun v21 landed rejected => L.a7_L1_R results1 v20 fu v21 landed rejected (fun q0_ q1_ => K (.exit 0) (bld [6, 8, 9] [.cl 0 0, .vec 2, .vec 3] 0 54) [.cells [.xi m0, .xi m01], .cells [.xi m1, .xi m11], .vec (.int .i64) 0 q0_, .vec (.int .i64) 0 q1_]) (fun q0_ q1_ q2_ q3_ => K .ret (bld [4, 5, 6] [.vec 0, .vec 1, .cl 2 0] 0 54) [.vec (.int .i64) 0 q0_, .vec (.int .i64) 0 q1_, .cells [.xi q2_, .xi q3_]])) = fun v21 landed rejected => iterL (stepL (exec L.pg (CC L.pg L.Γ_a7 L.Δ_a7) (drawD L.pg L.Γ_a7 L.Δ_a7) .leaf (sub [true, true, true, false, true, false, false] (codeOf Tryz.f9))) 2 L.a7_L1_d K) fu (bld L.a7_L1_d.keep [.ro (.pair (.pair (.int .i64) L.ye) .bool) results1, .cl 0 0, .vec 2, .vec 3, .xi v20, .xi v21] 0 54) [.cells [.xi m0, .xi m01], .cells [.xi m1, .xi m11], .vec (.int .i64) 0 landed, .vec (.int .i64) 0 rejected] := by
      funext v21 landed rejected; exact ih v21 landed rejected
    show L.a7_L1_b results1 v20 v21 landed rejected (fun v21 landed rejected => L.a7_L1_R results1 v20 fu v21 landed rejected (fun q0_ q1_ => K (.exit 0) (bld [6, 8, 9] [.cl 0 0, .vec 2, .vec 3] 0 54) [.cells [.xi m0, .xi m01], .cells [.xi m1, .xi m11], .vec (.int .i64) 0 q0_, .vec (.int .i64) 0 q1_]) (fun q0_ q1_ q2_ q3_ => K .ret (bld [4, 5, 6] [.vec 0, .vec 1, .cl 2 0] 0 54) [.vec (.int .i64) 0 q0_, .vec (.int .i64) 0 q1_, .cells [.xi q2_, .xi q3_]])) (fun q0_ q1_ => K (.exit 0) (bld [6, 8, 9] [.cl 0 0, .vec 2, .vec 3] 0 54) [.cells [.xi m0, .xi m01], .cells [.xi m1, .xi m11], .vec (.int .i64) 0 q0_, .vec (.int .i64) 0 q1_]) (fun q0_ q1_ q2_ q3_ => K .ret (bld [4, 5, 6] [.vec 0, .vec 1, .cl 2 0] 0 54) [.vec (.int .i64) 0 q0_, .vec (.int .i64) 0 q1_, .cells [.xi q2_, .xi q3_]]) = _
    rw [e]
    kernel_rfl
theorem L.a7_L1_imp (vs : List V) (st : List Ob) (K : Ex → St) (h : L.a7_L1_G vs st K) : ∃ fu, iterL (stepL (exec L.pg (CC L.pg L.Γ_a7 L.Δ_a7) (drawD L.pg L.Γ_a7 L.Δ_a7) .leaf (sub [true, true, true, false, true, false, false] (codeOf Tryz.f9))) 2 L.a7_L1_d K) fu (bld L.a7_L1_d.keep (mkL L.a7_L1_ss 0 vs) 0 54) (mkOs L.a7_L1_os 0 st) :=
  exMap (fun fu h => @Eq.mp _ _ (Eq.trans (L.a7_L1_eq (gR (.pair (.pair (.int .i64) L.ye) .bool) (gA vs 0)) (gI (gA vs 4)) (cI st 0 0) (cI st 0 1) (cI st 1 0) (cI st 1 1) K fu (gI (gA vs 5)) (oX (.int .i64) (gD st 2)) (oX (.int .i64) (gD st 3))) (by kernel_rfl)) h) (L.a7_L1.out h)
theorem L.a7_L1_ok : AnnOk L.pg (CC L.pg L.Γ_a7 L.Δ_a7) (drawD L.pg L.Γ_a7 L.Δ_a7) 0 (.lift L.a7_L1_d 54 L.a7_L1_F) (.loop (sub [true, true, true, false, true, false, false] (codeOf Tryz.f9))) :=
  lift_ok (an := .leaf) (ss := L.a7_L1_ss) (os := L.a7_L1_os) (G := L.a7_L1_G) rfl (Nat.le_of_ble_eq_true rfl) (annOk_leaf _) (L.a7_L1_imp)
def L.a7_B (n : Int) (results : L.yg) (K : (List Int) → (List Int) → Int → Int → Prop) : Prop :=
  L.a8 n results (fun rCode rIndex => (bif (!((rCode == 0) && ((rIndex == 0) && true))) then K ([] : List Int) ([] : List Int) rCode rIndex else L.a7_L1 results n 0 ([] : List Int) ([] : List Int) (fun landed rejected => K landed rejected 0 0) (fun r r1 r2 r3 => K r r1 r2 r3)))
structure L.a7 (n : Int) (results : L.yg) (K : (List Int) → (List Int) → Int → Int → Prop) : Prop where
  out : L.a7_B n results K
def L.a7_ss : List Sh := [.int .i64, .ro (.pair (.pair (.int .i64) L.ye) .bool)]
def L.a7_G (vs : List V) (K : V → List Ob → Prop) : Prop := L.a7 (gI (gA vs 0)) (gR (.pair (.pair (.int .i64) L.ye) .bool) (gA vs 1)) (fun r0 r1 r2 r3 => K (.tup [.vec 0, .vec 1, .agg [.xi r2, .xi r3]]) [.vec (.int .i64) 0 r0, .vec (.int .i64) 0 r1])
def L.a7_S : SemF := fun args K => argF L.a7_ss args fun a => L.a7_G a K
theorem L.a7_eq (n : Int) (results : L.yg) (K : V → List Ob → Prop) : run L.pg L.Γ_a7 L.Δ_a7 (.node .leaf (.node .leaf (.node .leaf (.node (.node .leaf (.lift L.a7_L1_d 54 L.a7_L1_F)) .leaf)))) (.tup [.sl (.int .i64), .sl (.int .i64), .any]) Tryz.f9 [.xi n, .ro (.pair (.pair (.int .i64) L.ye) .bool) results] K = L.a7_B n results (fun r0 r1 r2 r3 => K (.tup [.vec 0, .vec 1, .agg [.xi r2, .xi r3]]) [.vec (.int .i64) 0 r0, .vec (.int .i64) 0 r1]) := by
  kernel_rfl
theorem L.a7_imp (vs : List V) (K : V → List Ob → Prop) : Imp (L.a7_G vs K) (run L.pg L.Γ_a7 L.Δ_a7 (.node .leaf (.node .leaf (.node .leaf (.node (.node .leaf (.lift L.a7_L1_d 54 L.a7_L1_F)) .leaf)))) (.tup [.sl (.int .i64), .sl (.int .i64), .any]) Tryz.f9 (mkL L.a7_ss 0 vs) K) :=
  Imp.of (Eq.trans (b := run L.pg L.Γ_a7 L.Δ_a7 (.node .leaf (.node .leaf (.node .leaf (.node (.node .leaf (.lift L.a7_L1_d 54 L.a7_L1_F)) .leaf)))) (.tup [.sl (.int .i64), .sl (.int .i64), .any]) Tryz.f9 [.xi (gI (gA vs 0)), .ro (.pair (.pair (.int .i64) L.ye) .bool) (gR (.pair (.pair (.int .i64) L.ye) .bool) (gA vs 1))] K) (by kernel_rfl) (L.a7_eq (gI (gA vs 0)) (gR (.pair (.pair (.int .i64) L.ye) .bool) (gA vs 1)) K)) fun h => (L.a7.out h)
theorem L.a7_ok : SoundFn L.pg 9 L.a7_S :=
  fn_ok (sem := run L.pg L.Γ_a7 L.Δ_a7 (.node .leaf (.node .leaf (.node .leaf (.node (.node .leaf (.lift L.a7_L1_d 54 L.a7_L1_F)) .leaf)))) (.tup [.sl (.int .i64), .sl (.int .i64), .any]) Tryz.f9) (ss := L.a7_ss) (G := L.a7_G) (run_ok L.Γ_a7_ok L.Δ_a7_ok Tryz.func9 (ann := (.node .leaf (.node .leaf (.node .leaf (.node (.node .leaf (.lift L.a7_L1_d 54 L.a7_L1_F)) .leaf))))) ⟨(annOk_leaf _), ⟨(annOk_leaf _), ⟨(annOk_leaf _), ⟨⟨(annOk_leaf _), L.a7_L1_ok⟩, (annOk_leaf _)⟩⟩⟩⟩) L.a7_imp
def L.Γ_c1 : Ctx := ctxC L.Γ_a7 9 L.a7_S
theorem L.Γ_c1_ok : SoundG L.pg L.Γ_c1 := ctxC_ok L.Γ_a7_ok L.a7_ok
def L.Δ_c1 : CtxO := L.Δ_a7
theorem L.Δ_c1_ok : SoundGO L.pg L.Δ_c1 := L.Δ_a7_ok
def L.c1_L1_b (a1 : (List Int)) (b1 : (List Int)) (i_ : Int) (self : Int → Prop) (Kx0 : Prop) (Kr : Bool → Prop) : Prop :=
  (bif (decide (i_ < (a1.length : Int))) then (inB i_ a1.length) ∧ (inB i_ b1.length) ∧ (bif ((a1.getD i_.toNat 0) != (b1.getD i_.toNat 0)) then Kr false else self (i64 (i_ + 1))) else Kx0)
def L.c1_L1_R (a1 : (List Int)) (b1 : (List Int)) : Nat → Int → (Prop) → (Bool → Prop) → Prop
  | 0, _, _, _ => False
  | fu + 1, i_, Kx0, Kr => L.c1_L1_b a1 b1 i_ (fun i_ => L.c1_L1_R a1 b1 fu i_ Kx0 Kr) Kx0 Kr
structure L.c1_L1 (a1 : (List Int)) (b1 : (List Int)) (i_ : Int) (Kx0 : Prop) (Kr : Bool → Prop) : Prop where
  out : ∃ fu, L.c1_L1_R a1 b1 fu i_ Kx0 Kr
def L.c1_L1_d : LoopD := { base := 0, vecs := [], flds := [], keep := [0, 1, 5], out := [], rets := [4], rv := [], rbase := 0 }
def L.c1_L1_ss : List Sh := [.ro (.int .i64), .ro (.int .i64), .int .i64]
def L.c1_L1_os : List OSh := []
def L.c1_L1_G (vs : List V) (st : List Ob) (K : Ex → St) : Prop := L.c1_L1 (gR (.int .i64) (gA vs 0)) (gR (.int .i64) (gA vs 1)) (gI (gA vs 2)) (K (.exit 0) (bld [] [] 0 26) []) (fun q0_ => K .ret (bld [4] [.x (.bool q0_)] 0 26) [])
def L.c1_L1_F (vs : List V) (st : List Ob) (K : Ex → St) : Prop := fitF L.c1_L1_ss L.c1_L1_os vs st (L.c1_L1_G vs st K)
theorem L.c1_L1_eq (a1 : (List Int)) (b1 : (List Int)) (K : Ex → St) : ∀ (fu : Nat) (i_ : Int), L.c1_L1_R a1 b1 fu i_ (K (.exit 0) (bld [] [] 0 26) []) (fun q0_ => K .ret (bld [4] [.x (.bool q0_)] 0 26) []) = iterL (stepL (exec L.pg (CC L.pg L.Γ_c1 L.Δ_c1) (drawD L.pg L.Γ_c1 L.Δ_c1) .leaf (sub [true, true, false, true, false, false] (codeOf Tryz.f10))) 0 L.c1_L1_d K) fu (bld L.c1_L1_d.keep [.ro (.int .i64) a1, .ro (.int .i64) b1, .xi i_] 0 26) [] := by
  intro fu
  induction fu with
  | zero => intros; rfl
  | succ fu ih =>
    intro i_
    have e : (fun i_ => L.c1_L1_R a1 b1 fu i_ (K (.exit 0) (bld [] [] 0 26) []) (fun q0_ => K .ret (bld [4] [.x (.bool q0_)] 0 26) [])) = fun i_ => iterL (stepL (exec L.pg (CC L.pg L.Γ_c1 L.Δ_c1) (drawD L.pg L.Γ_c1 L.Δ_c1) .leaf (sub [true, true, false, true, false, false] (codeOf Tryz.f10))) 0 L.c1_L1_d K) fu (bld L.c1_L1_d.keep [.ro (.int .i64) a1, .ro (.int .i64) b1, .xi i_] 0 26) [] := by
      funext i_; exact ih i_
    show L.c1_L1_b a1 b1 i_ (fun i_ => L.c1_L1_R a1 b1 fu i_ (K (.exit 0) (bld [] [] 0 26) []) (fun q0_ => K .ret (bld [4] [.x (.bool q0_)] 0 26) [])) (K (.exit 0) (bld [] [] 0 26) []) (fun q0_ => K .ret (bld [4] [.x (.bool q0_)] 0 26) []) = _
    rw [e]
    kernel_rfl
theorem L.c1_L1_imp (vs : List V) (st : List Ob) (K : Ex → St) (h : L.c1_L1_G vs st K) : ∃ fu, iterL (stepL (exec L.pg (CC L.pg L.Γ_c1 L.Δ_c1) (drawD L.pg L.Γ_c1 L.Δ_c1) .leaf (sub [true, true, false, true, false, false] (codeOf Tryz.f10))) 0 L.c1_L1_d K) fu (bld L.c1_L1_d.keep (mkL L.c1_L1_ss 0 vs) 0 26) (mkOs L.c1_L1_os 0 st) :=
  exMap (fun fu h => @Eq.mp _ _ (Eq.trans (L.c1_L1_eq (gR (.int .i64) (gA vs 0)) (gR (.int .i64) (gA vs 1)) K fu (gI (gA vs 2))) (by kernel_rfl)) h) (L.c1_L1.out h)
theorem L.c1_L1_ok : AnnOk L.pg (CC L.pg L.Γ_c1 L.Δ_c1) (drawD L.pg L.Γ_c1 L.Δ_c1) 0 (.lift L.c1_L1_d 26 L.c1_L1_F) (.loop (sub [true, true, false, true, false, false] (codeOf Tryz.f10))) :=
  lift_ok (an := .leaf) (ss := L.c1_L1_ss) (os := L.c1_L1_os) (G := L.c1_L1_G) rfl (Nat.le_of_ble_eq_true rfl) (annOk_leaf _) (L.c1_L1_imp)
def L.c1_B (a : (List Int)) (b : (List Int)) (K : Bool → Prop) : Prop :=
  (bif ((a.length : Int) != (b.length : Int)) then K false else L.c1_L1 a b 0 (K true) (fun r => K r))
structure L.c1 (a : (List Int)) (b : (List Int)) (K : Bool → Prop) : Prop where
  out : L.c1_B a b K
def L.c1_ss : List Sh := [.ro (.int .i64), .ro (.int .i64)]
def L.c1_G (vs : List V) (K : V → List Ob → Prop) : Prop := L.c1 (gR (.int .i64) (gA vs 0)) (gR (.int .i64) (gA vs 1)) (fun r0 => K (.x (.bool r0)) [])
def L.c1_S : SemF := fun args K => argF L.c1_ss args fun a => L.c1_G a K
theorem L.c1_eq (a : (List Int)) (b : (List Int)) (K : V → List Ob → Prop) : run L.pg L.Γ_c1 L.Δ_c1 (.node .leaf (.node .leaf (.node (.node .leaf (.lift L.c1_L1_d 26 L.c1_L1_F)) .leaf))) .any Tryz.f10 [.ro (.int .i64) a, .ro (.int .i64) b] K = L.c1_B a b (fun r0 => K (.x (.bool r0)) []) := by
  kernel_rfl
theorem L.c1_imp (vs : List V) (K : V → List Ob → Prop) : Imp (L.c1_G vs K) (run L.pg L.Γ_c1 L.Δ_c1 (.node .leaf (.node .leaf (.node (.node .leaf (.lift L.c1_L1_d 26 L.c1_L1_F)) .leaf))) .any Tryz.f10 (mkL L.c1_ss 0 vs) K) :=
  Imp.of (Eq.trans (b := run L.pg L.Γ_c1 L.Δ_c1 (.node .leaf (.node .leaf (.node (.node .leaf (.lift L.c1_L1_d 26 L.c1_L1_F)) .leaf))) .any Tryz.f10 [.ro (.int .i64) (gR (.int .i64) (gA vs 0)), .ro (.int .i64) (gR (.int .i64) (gA vs 1))] K) (by kernel_rfl) (L.c1_eq (gR (.int .i64) (gA vs 0)) (gR (.int .i64) (gA vs 1)) K)) fun h => (L.c1.out h)
theorem L.c1_ok : SoundFn L.pg 10 L.c1_S :=
  fn_ok (sem := run L.pg L.Γ_c1 L.Δ_c1 (.node .leaf (.node .leaf (.node (.node .leaf (.lift L.c1_L1_d 26 L.c1_L1_F)) .leaf))) .any Tryz.f10) (ss := L.c1_ss) (G := L.c1_G) (run_ok L.Γ_c1_ok L.Δ_c1_ok Tryz.func10 (ann := (.node .leaf (.node .leaf (.node (.node .leaf (.lift L.c1_L1_d 26 L.c1_L1_F)) .leaf)))) ⟨(annOk_leaf _), ⟨(annOk_leaf _), ⟨⟨(annOk_leaf _), L.c1_L1_ok⟩, (annOk_leaf _)⟩⟩⟩) L.c1_imp
def L.Γ_g2 : Ctx := ctxC L.Γ_c1 10 L.c1_S
theorem L.Γ_g2_ok : SoundG L.pg L.Γ_g2 := ctxC_ok L.Γ_c1_ok L.c1_ok
def L.Δ_g2 : CtxO := L.Δ_c1
theorem L.Δ_g2_ok : SoundGO L.pg L.Δ_g2 := L.Δ_c1_ok
def L.g2_B (K : Bool → Prop) : Prop :=
  L.b3 1 ([(1, (5, 0)), (3, (5, 0))] : List (Int × (Int × Int))) (fun r r1 r2 r3 r4 => L.b8 2 ([([0] : List Int)] : List (List Int)) (fun r5 rCode rIndex => L.a7 1 ([((0, ([] : List Int)), true)] : List ((Int × (List Int)) × Bool)) (fun r6 r7 rCode1 rIndex1 => (bif (bif (bif (r3 == 0) then (rCode == 0) else false) then (rCode1 == 0) else false) then L.c1 r1 ([5] : List Int) (fun r8 => (bif (bif true then r8 else false) then L.c1 r5 ([1] : List Int) (fun r9 => (bif (bif true then r9 else false) then L.c1 r6 ([0] : List Int) (fun r10 => K (bif true then r10 else false)) else K false)) else K false)) else K false))))
structure L.g2 (K : Bool → Prop) : Prop where
  out : L.g2_B K
def L.g2_ss : List Sh := []
def L.g2_G (vs : List V) (K : V → List Ob → Prop) : Prop := L.g2 (fun r0 => K (.x (.bool r0)) [])
def L.g2_S : SemF := fun args K => argF L.g2_ss args fun a => L.g2_G a K
theorem L.g2_eq (K : V → List Ob → Prop) : run L.pg L.Γ_g2 L.Δ_g2 .leaf .any Tryz.f4 [] K = L.g2_B (fun r0 => K (.x (.bool r0)) []) := by
  kernel_rfl
theorem L.g2_imp (vs : List V) (K : V → List Ob → Prop) : Imp (L.g2_G vs K) (run L.pg L.Γ_g2 L.Δ_g2 .leaf .any Tryz.f4 (mkL L.g2_ss 0 vs) K) :=
  Imp.of (Eq.trans (b := run L.pg L.Γ_g2 L.Δ_g2 .leaf .any Tryz.f4 [] K) (by kernel_rfl) (L.g2_eq K)) fun h => (L.g2.out h)
theorem L.g2_ok : SoundFn L.pg 4 L.g2_S :=
  fn_ok (sem := run L.pg L.Γ_g2 L.Δ_g2 .leaf .any Tryz.f4) (ss := L.g2_ss) (G := L.g2_G) (run_ok L.Γ_g2_ok L.Δ_g2_ok Tryz.func4 (ann := .leaf) (annOk_leaf _)) L.g2_imp
def L.Γ_i0 : Ctx := ctxC L.Γ_g2 4 L.g2_S
theorem L.Γ_i0_ok : SoundG L.pg L.Γ_i0 := ctxC_ok L.Γ_g2_ok L.g2_ok
def L.Δ_i0 : CtxO := L.Δ_g2
theorem L.Δ_i0_ok : SoundGO L.pg L.Δ_i0 := L.Δ_g2_ok
def L.i0_B (path : ByteArray) (K : Bool → Prop) : Prop :=
  K (La.vp_R path)
structure L.i0 (path : ByteArray) (K : Bool → Prop) : Prop where
  out : L.i0_B path K
def L.i0_ss : List Sh := [.str]
def L.i0_G (vs : List V) (K : V → List Ob → Prop) : Prop := L.i0 (gS (gA vs 0)) (fun r0 => K (.x (.bool r0)) [])
def L.i0_S : SemF := fun args K => argF L.i0_ss args fun a => L.i0_G a K
theorem L.i0_ok : SoundFn L.pg 60 L.i0_S := SoundFn.of_imp La.vp_ok fun args K h => argF_mono (fun a h => h.out) h
def L.Γ_h9 : Ctx := ctxC L.Γ_i0 60 L.i0_S
theorem L.Γ_h9_ok : SoundG L.pg L.Γ_h9 := ctxC_ok L.Γ_i0_ok L.i0_ok
def L.Δ_h9 : CtxO := L.Δ_i0
theorem L.Δ_h9_ok : SoundGO L.pg L.Δ_h9 := L.Δ_i0_ok
def L.h9_B (s : ByteArray) (prefix_ : ByteArray) (K : Bool → Prop) : Prop :=
  ((((decide ((s.size : Int) ≥ (prefix_.size : Int))) == true) = true → 0 ≤ (prefix_.size : Int) ∧ (prefix_.size : Int) ≤ s.size)) ∧ K (bif (decide ((s.size : Int) ≥ (prefix_.size : Int))) then ((s.extract 0 (prefix_.size : Int).toNat).toList == prefix_.toList) else false)
structure L.h9 (s : ByteArray) (prefix_ : ByteArray) (K : Bool → Prop) : Prop where
  out : L.h9_B s prefix_ K
def L.h9_ss : List Sh := [.str, .str]
def L.h9_G (vs : List V) (K : V → List Ob → Prop) : Prop := L.h9 (gS (gA vs 0)) (gS (gA vs 1)) (fun r0 => K (.x (.bool r0)) [])
def L.h9_S : SemF := fun args K => argF L.h9_ss args fun a => L.h9_G a K
theorem L.h9_eq (s : ByteArray) (prefix_ : ByteArray) (K : V → List Ob → Prop) : run L.pg L.Γ_h9 L.Δ_h9 .leaf .any Tryz.f93 [.x (.string s), .x (.string prefix_)] K = L.h9_B s prefix_ (fun r0 => K (.x (.bool r0)) []) := by
  kernel_rfl
theorem L.h9_imp (vs : List V) (K : V → List Ob → Prop) : Imp (L.h9_G vs K) (run L.pg L.Γ_h9 L.Δ_h9 .leaf .any Tryz.f93 (mkL L.h9_ss 0 vs) K) :=
  Imp.of (Eq.trans (b := run L.pg L.Γ_h9 L.Δ_h9 .leaf .any Tryz.f93 [.x (.string (gS (gA vs 0))), .x (.string (gS (gA vs 1)))] K) (by kernel_rfl) (L.h9_eq (gS (gA vs 0)) (gS (gA vs 1)) K)) fun h => (L.h9.out h)
theorem L.h9_ok : SoundFn L.pg 93 L.h9_S :=
  fn_ok (sem := run L.pg L.Γ_h9 L.Δ_h9 .leaf .any Tryz.f93) (ss := L.h9_ss) (G := L.h9_G) (run_ok L.Γ_h9_ok L.Δ_h9_ok Tryz.func93 (ann := .leaf) (annOk_leaf _)) L.h9_imp
def L.Γ_f8 : Ctx := ctxC L.Γ_h9 93 L.h9_S
theorem L.Γ_f8_ok : SoundG L.pg L.Γ_f8 := ctxC_ok L.Γ_h9_ok L.h9_ok
def L.Δ_f8 : CtxO := L.Δ_h9
theorem L.Δ_f8_ok : SoundGO L.pg L.Δ_f8 := L.Δ_h9_ok
def L.f8_B (s : ByteArray) (prefix_ : ByteArray) (K : Bool → Prop) : Prop :=
  L.h9 s prefix_ (fun r => K r)
structure L.f8 (s : ByteArray) (prefix_ : ByteArray) (K : Bool → Prop) : Prop where
  out : L.f8_B s prefix_ K
def L.f8_ss : List Sh := [.str, .str]
def L.f8_G (vs : List V) (K : V → List Ob → Prop) : Prop := L.f8 (gS (gA vs 0)) (gS (gA vs 1)) (fun r0 => K (.x (.bool r0)) [])
def L.f8_S : SemF := fun args K => argF L.f8_ss args fun a => L.f8_G a K
theorem L.f8_eq (s : ByteArray) (prefix_ : ByteArray) (K : V → List Ob → Prop) : run L.pg L.Γ_f8 L.Δ_f8 .leaf .any Tryz.f83 [.x (.string s), .x (.string prefix_)] K = L.f8_B s prefix_ (fun r0 => K (.x (.bool r0)) []) := by
  kernel_rfl
theorem L.f8_imp (vs : List V) (K : V → List Ob → Prop) : Imp (L.f8_G vs K) (run L.pg L.Γ_f8 L.Δ_f8 .leaf .any Tryz.f83 (mkL L.f8_ss 0 vs) K) :=
  Imp.of (Eq.trans (b := run L.pg L.Γ_f8 L.Δ_f8 .leaf .any Tryz.f83 [.x (.string (gS (gA vs 0))), .x (.string (gS (gA vs 1)))] K) (by kernel_rfl) (L.f8_eq (gS (gA vs 0)) (gS (gA vs 1)) K)) fun h => (L.f8.out h)
theorem L.f8_ok : SoundFn L.pg 83 L.f8_S :=
  fn_ok (sem := run L.pg L.Γ_f8 L.Δ_f8 .leaf .any Tryz.f83) (ss := L.f8_ss) (G := L.f8_G) (run_ok L.Γ_f8_ok L.Δ_f8_ok Tryz.func83 (ann := .leaf) (annOk_leaf _)) L.f8_imp
def L.Γ_f7 : Ctx := ctxC L.Γ_f8 83 L.f8_S
theorem L.Γ_f7_ok : SoundG L.pg L.Γ_f7 := ctxC_ok L.Γ_f8_ok L.f8_ok
def L.Δ_f7 : CtxO := L.Δ_f8
theorem L.Δ_f7_ok : SoundGO L.pg L.Δ_f7 := L.Δ_f8_ok
def L.f7_B (a : ByteArray) (b : ByteArray) (K : Bool → Prop) : Prop :=
  ((((a.toList == b.toList) == false) = true → ((b.size + L.str3.size : Nat) : Int) ≤ IntKind.i64.max)) ∧ (bif (a.toList == b.toList) then (((true == false) = true → ((a.size + L.str3.size : Nat) : Int) ≤ IntKind.i64.max)) ∧ K true else L.f8 a (b ++ L.str3) (fun r => ((((bif false then true else r) == false) = true → ((a.size + L.str3.size : Nat) : Int) ≤ IntKind.i64.max)) ∧ (bif (bif false then true else r) then K true else L.f8 b (a ++ L.str3) (fun r1 => K (bif false then true else r1)))))
structure L.f7 (a : ByteArray) (b : ByteArray) (K : Bool → Prop) : Prop where
  out : L.f7_B a b K
def L.f7_ss : List Sh := [.str, .str]
def L.f7_G (vs : List V) (K : V → List Ob → Prop) : Prop := L.f7 (gS (gA vs 0)) (gS (gA vs 1)) (fun r0 => K (.x (.bool r0)) [])
def L.f7_S : SemF := fun args K => argF L.f7_ss args fun a => L.f7_G a K
theorem L.f7_eq (a : ByteArray) (b : ByteArray) (K : V → List Ob → Prop) : run L.pg L.Γ_f7 L.Δ_f7 .leaf .any Tryz.f72 [.x (.string a), .x (.string b)] K = L.f7_B a b (fun r0 => K (.x (.bool r0)) []) := by
  kernel_rfl
theorem L.f7_imp (vs : List V) (K : V → List Ob → Prop) : Imp (L.f7_G vs K) (run L.pg L.Γ_f7 L.Δ_f7 .leaf .any Tryz.f72 (mkL L.f7_ss 0 vs) K) :=
  Imp.of (Eq.trans (b := run L.pg L.Γ_f7 L.Δ_f7 .leaf .any Tryz.f72 [.x (.string (gS (gA vs 0))), .x (.string (gS (gA vs 1)))] K) (by kernel_rfl) (L.f7_eq (gS (gA vs 0)) (gS (gA vs 1)) K)) fun h => (L.f7.out h)
theorem L.f7_ok : SoundFn L.pg 72 L.f7_S :=
  fn_ok (sem := run L.pg L.Γ_f7 L.Δ_f7 .leaf .any Tryz.f72) (ss := L.f7_ss) (G := L.f7_G) (run_ok L.Γ_f7_ok L.Δ_f7_ok Tryz.func72 (ann := .leaf) (annOk_leaf _)) L.f7_imp
def L.Γ_a4 : Ctx := ctxC L.Γ_f7 72 L.f7_S
theorem L.Γ_a4_ok : SoundG L.pg L.Γ_a4 := ctxC_ok L.Γ_f7_ok L.f7_ok
def L.Δ_a4 : CtxO := L.Δ_f7
theorem L.Δ_a4_ok : SoundGO L.pg L.Δ_a4 := L.Δ_f7_ok
def L.a4_J1_B (v24 : Bool) (Kn : Prop) (Kr : Bool → Prop) : Prop :=
  (bif v24 then Kr true else Kn)
structure L.a4_J1 (v24 : Bool) (Kn : Prop) (Kr : Bool → Prop) : Prop where
  out : L.a4_J1_B v24 Kn Kr
def L.a4_J1_d : CutD := { base := 1, vecs := [], flds := [], keep := [1, 2, 9, 10, 11, 24], out := [1, 2, 9, 10, 11], rets := [6], ovecs := [], oflds := [], rv := [], rbase := 0 }
def L.a4_J1_ss : List Sh := [.str, .int .i64, .ro L.yc, .int .i64, .int .i64, .bool]
def L.a4_J1_os : List OSh := [.cells [.str, .ro .str]]
def L.a4_J1_G (vs : List V) (st : List Ob) (K : Ex → St) : Prop := L.a4_J1 (gB (gA vs 5)) (K .normal (bld [1, 2, 9, 10, 11] [.x (.string (gS (gA vs 0))), .xi (gI (gA vs 1)), .ro L.yc (gR L.yc (gA vs 2)), .xi (gI (gA vs 3)), .xi (gI (gA vs 4))] 0 26) [.cells [.x (.string (gS ((oC (gD st 0)).getD 0 .any))), .ro .str (gR .str ((oC (gD st 0)).getD 1 .any))]]) (fun q0_ => K .ret (bld [6] [.x (.bool q0_)] 0 26) [])
def L.a4_J1_F (vs : List V) (st : List Ob) (K : Ex → St) : Prop := fitF L.a4_J1_ss L.a4_J1_os vs st (L.a4_J1_G vs st K)
theorem L.a4_J1_eq (path1 : ByteArray) (except1 : Int) (v9 : L.T11) (v10 : Int) (v11 : Int) (v24 : Bool) (m0 : ByteArray) (m01 : L.yf) (K : Ex → St) : L.a4_J1_B v24 (K .normal (bld [1, 2, 9, 10, 11] [.x (.string path1), .xi except1, .ro L.yc v9, .xi v10, .xi v11] 0 26) [.cells [.x (.string m0), .ro .str m01]]) (fun q0_ => K .ret (bld [6] [.x (.bool q0_)] 0 26) []) = exec L.pg (CC L.pg L.Γ_a4 L.Δ_a4) (drawD L.pg L.Γ_a4 L.Δ_a4) .leaf (sub [true, false, true, false, false, true, true, false, false, true, true] (codeOf Tryz.f61)) (bld L.a4_J1_d.keep [.x (.string path1), .xi except1, .ro L.yc v9, .xi v10, .xi v11, .x (.bool v24)] 0 26) [.cells [.x (.string m0), .ro .str m01]] (cutK L.a4_J1_d K) := by
  kernel_rfl
theorem L.a4_J1_ok (vs : List V) (st : List Ob) (K : Ex → St) : Imp (L.a4_J1_G vs st K) (exec L.pg (CC L.pg L.Γ_a4 L.Δ_a4) (drawD L.pg L.Γ_a4 L.Δ_a4) .leaf (sub [true, false, true, false, false, true, true, false, false, true, true] (codeOf Tryz.f61)) (bld L.a4_J1_d.keep (mkL L.a4_J1_ss 0 vs) 0 26) (mkOs L.a4_J1_os 0 st) (cutK L.a4_J1_d K)) :=
  Imp.of (Eq.trans (b := exec L.pg (CC L.pg L.Γ_a4 L.Δ_a4) (drawD L.pg L.Γ_a4 L.Δ_a4) .leaf (sub [true, false, true, false, false, true, true, false, false, true, true] (codeOf Tryz.f61)) (bld L.a4_J1_d.keep [.x (.string (gS (gA vs 0))), .xi (gI (gA vs 1)), .ro L.yc (gR L.yc (gA vs 2)), .xi (gI (gA vs 3)), .xi (gI (gA vs 4)), .x (.bool (gB (gA vs 5)))] 0 26) [.cells [.x (.string (gS ((oC (gD st 0)).getD 0 .any))), .ro .str (gR .str ((oC (gD st 0)).getD 1 .any))]] (cutK L.a4_J1_d K)) (by kernel_rfl) (Eq.symm (L.a4_J1_eq (gS (gA vs 0)) (gI (gA vs 1)) (gR L.yc (gA vs 2)) (gI (gA vs 3)) (gI (gA vs 4)) (gB (gA vs 5)) (gS ((oC (gD st 0)).getD 0 .any)) (gR .str ((oC (gD st 0)).getD 1 .any)) K))) fun h => (L.a4_J1.out h)
def L.a4_L1_b (path1 : ByteArray) (except1 : Int) (v9 : L.T11) (v10 : Int) (v11 : Int) (self : Int → Prop) (Kx0 : Prop) (Kr : Bool → Prop) : Prop :=
  (bif (decide (v11 < v10)) then (inB v11 v9.length) ∧ (bif (v11 != except1) then L.f7 ((v9.getD v11.toNat (ByteArray.empty, [])).1) path1 (fun r => L.a4_J1 (bif true then r else false) (self (i64 (v11 + 1))) Kr) else L.a4_J1 false (self (i64 (v11 + 1))) Kr) else Kx0)
def L.a4_L1_R (path1 : ByteArray) (except1 : Int) (v9 : L.T11) (v10 : Int) : Nat → Int → (Prop) → (Bool → Prop) → Prop
  | 0, _, _, _ => False
  | fu + 1, v11, Kx0, Kr => L.a4_L1_b path1 except1 v9 v10 v11 (fun v11 => L.a4_L1_R path1 except1 v9 v10 fu v11 Kx0 Kr) Kx0 Kr
structure L.a4_L1 (path1 : ByteArray) (except1 : Int) (v9 : L.T11) (v10 : Int) (v11 : Int) (Kx0 : Prop) (Kr : Bool → Prop) : Prop where
  out : ∃ fu, L.a4_L1_R path1 except1 v9 v10 fu v11 Kx0 Kr
def L.a4_L1_d : LoopD := { base := 0, vecs := [], flds := [], keep := [1, 2, 9, 10, 11], out := [], rets := [6], rv := [], rbase := 0 }
def L.a4_L1_ss : List Sh := [.str, .int .i64, .ro L.yc, .int .i64, .int .i64]
def L.a4_L1_os : List OSh := []
def L.a4_L1_G (vs : List V) (st : List Ob) (K : Ex → St) : Prop := L.a4_L1 (gS (gA vs 0)) (gI (gA vs 1)) (gR L.yc (gA vs 2)) (gI (gA vs 3)) (gI (gA vs 4)) (K (.exit 0) (bld [] [] 0 26) []) (fun q0_ => K .ret (bld [6] [.x (.bool q0_)] 0 26) [])
def L.a4_L1_F (vs : List V) (st : List Ob) (K : Ex → St) : Prop := fitF L.a4_L1_ss L.a4_L1_os vs st (L.a4_L1_G vs st K)
theorem L.a4_L1_eq (path1 : ByteArray) (except1 : Int) (v9 : L.T11) (v10 : Int) (K : Ex → St) : ∀ (fu : Nat) (v11 : Int), L.a4_L1_R path1 except1 v9 v10 fu v11 (K (.exit 0) (bld [] [] 0 26) []) (fun q0_ => K .ret (bld [6] [.x (.bool q0_)] 0 26) []) = iterL (stepL (exec L.pg (CC L.pg L.Γ_a4 L.Δ_a4) (drawD L.pg L.Γ_a4 L.Δ_a4) (.node .leaf (.node .leaf (.node (.node .leaf (.cut .leaf L.a4_J1_d 26 L.a4_J1_F)) .leaf))) (sub [true, false, true, false, false] (codeOf Tryz.f61))) 0 L.a4_L1_d K) fu (bld L.a4_L1_d.keep [.x (.string path1), .xi except1, .ro L.yc v9, .xi v10, .xi v11] 0 26) [] := by
  intro fu
  induction fu with
  | zero => intros; rfl
  | succ fu ih =>
    intro v11
    have e : (fun v11 => L.a4_L1_R path1 except1 v9 v10 fu v11 (K (.exit 0) (bld [] [] 0 26) []) (fun q0_ => K .ret (bld [6] [.x (.bool q0_)] 0 26) [])) = fun v11 => iterL (stepL (exec L.pg (CC L.pg L.Γ_a4 L.Δ_a4) (drawD L.pg L.Γ_a4 L.Δ_a4) (.node .leaf (.node .leaf (.node (.node .leaf (.cut .leaf L.a4_J1_d 26 L.a4_J1_F)) .leaf))) (sub [true, false, true, false, false] (codeOf Tryz.f61))) 0 L.a4_L1_d K) fu (bld L.a4_L1_d.keep [.x (.string path1), .xi except1, .ro L.yc v9, .xi v10, .xi v11] 0 26) [] := by
      funext v11; exact ih v11
    show L.a4_L1_b path1 except1 v9 v10 v11 (fun v11 => L.a4_L1_R path1 except1 v9 v10 fu v11 (K (.exit 0) (bld [] [] 0 26) []) (fun q0_ => K .ret (bld [6] [.x (.bool q0_)] 0 26) [])) (K (.exit 0) (bld [] [] 0 26) []) (fun q0_ => K .ret (bld [6] [.x (.bool q0_)] 0 26) []) = _
    rw [e]
    kernel_rfl
theorem L.a4_L1_imp (vs : List V) (st : List Ob) (K : Ex → St) (h : L.a4_L1_G vs st K) : ∃ fu, iterL (stepL (exec L.pg (CC L.pg L.Γ_a4 L.Δ_a4) (drawD L.pg L.Γ_a4 L.Δ_a4) (.node .leaf (.node .leaf (.node (.node .leaf (.cut .leaf L.a4_J1_d 26 L.a4_J1_F)) .leaf))) (sub [true, false, true, false, false] (codeOf Tryz.f61))) 0 L.a4_L1_d K) fu (bld L.a4_L1_d.keep (mkL L.a4_L1_ss 0 vs) 0 26) (mkOs L.a4_L1_os 0 st) :=
  exMap (fun fu h => @Eq.mp _ _ (Eq.trans (L.a4_L1_eq (gS (gA vs 0)) (gI (gA vs 1)) (gR L.yc (gA vs 2)) (gI (gA vs 3)) K fu (gI (gA vs 4))) (by kernel_rfl)) h) (L.a4_L1.out h)
theorem L.a4_L1_ok : AnnOk L.pg (CC L.pg L.Γ_a4 L.Δ_a4) (drawD L.pg L.Γ_a4 L.Δ_a4) 0 (.lift L.a4_L1_d 26 L.a4_L1_F) (.loop (sub [true, false, true, false, false] (codeOf Tryz.f61))) :=
  lift_ok (an := (.node .leaf (.node .leaf (.node (.node .leaf (.cut .leaf L.a4_J1_d 26 L.a4_J1_F)) .leaf)))) (ss := L.a4_L1_ss) (os := L.a4_L1_os) (G := L.a4_L1_G) rfl (Nat.le_of_ble_eq_true rfl) ⟨(annOk_leaf _), ⟨(annOk_leaf _), ⟨⟨(annOk_leaf _), (cut_ok (ay := .leaf) (ss := L.a4_J1_ss) (os := L.a4_J1_os) (G := L.a4_J1_G) rfl (annOk_leaf _) (Nat.le_of_ble_eq_true rfl) (Nat.le_of_ble_eq_true rfl) (annOk_leaf _) L.a4_J1_ok)⟩, (annOk_leaf _)⟩⟩⟩ (L.a4_L1_imp)
def L.a4_B (files : L.T11) (path : ByteArray) (except : Int) (K : Bool → Prop) : Prop :=
  L.a4_L1 path except files (files.length : Int) 0 (K false) (fun r => K r)
structure L.a4 (files : L.T11) (path : ByteArray) (except : Int) (K : Bool → Prop) : Prop where
  out : L.a4_B files path except K
def L.a4_ss : List Sh := [.ro L.yc, .str, .int .i64]
def L.a4_G (vs : List V) (K : V → List Ob → Prop) : Prop := L.a4 (gR L.yc (gA vs 0)) (gS (gA vs 1)) (gI (gA vs 2)) (fun r0 => K (.x (.bool r0)) [])
def L.a4_S : SemF := fun args K => argF L.a4_ss args fun a => L.a4_G a K
theorem L.a4_eq (files : L.T11) (path : ByteArray) (except : Int) (K : V → List Ob → Prop) : run L.pg L.Γ_a4 L.Δ_a4 (.node .leaf (.node (.node .leaf (.lift L.a4_L1_d 26 L.a4_L1_F)) .leaf)) .any Tryz.f61 [.ro L.yc files, .x (.string path), .xi except] K = L.a4_B files path except (fun r0 => K (.x (.bool r0)) []) := by
  kernel_rfl
theorem L.a4_imp (vs : List V) (K : V → List Ob → Prop) : Imp (L.a4_G vs K) (run L.pg L.Γ_a4 L.Δ_a4 (.node .leaf (.node (.node .leaf (.lift L.a4_L1_d 26 L.a4_L1_F)) .leaf)) .any Tryz.f61 (mkL L.a4_ss 0 vs) K) :=
  Imp.of (Eq.trans (b := run L.pg L.Γ_a4 L.Δ_a4 (.node .leaf (.node (.node .leaf (.lift L.a4_L1_d 26 L.a4_L1_F)) .leaf)) .any Tryz.f61 [.ro L.yc (gR L.yc (gA vs 0)), .x (.string (gS (gA vs 1))), .xi (gI (gA vs 2))] K) (by kernel_rfl) (L.a4_eq (gR L.yc (gA vs 0)) (gS (gA vs 1)) (gI (gA vs 2)) K)) fun h => (L.a4.out h)
theorem L.a4_ok : SoundFn L.pg 61 L.a4_S :=
  fn_ok (sem := run L.pg L.Γ_a4 L.Δ_a4 (.node .leaf (.node (.node .leaf (.lift L.a4_L1_d 26 L.a4_L1_F)) .leaf)) .any Tryz.f61) (ss := L.a4_ss) (G := L.a4_G) (run_ok L.Γ_a4_ok L.Δ_a4_ok Tryz.func61 (ann := (.node .leaf (.node (.node .leaf (.lift L.a4_L1_d 26 L.a4_L1_F)) .leaf))) ⟨(annOk_leaf _), ⟨⟨(annOk_leaf _), L.a4_L1_ok⟩, (annOk_leaf _)⟩⟩) L.a4_imp
def L.Γ_i1 : Ctx := ctxC L.Γ_a4 61 L.a4_S
theorem L.Γ_i1_ok : SoundG L.pg L.Γ_i1 := ctxC_ok L.Γ_a4_ok L.a4_ok
def L.Δ_i1 : CtxO := L.Δ_a4
theorem L.Δ_i1_ok : SoundGO L.pg L.Δ_i1 := L.Δ_a4_ok
def L.i1_B (s : ByteArray) (c : Int) (K : Int → Prop) : Prop :=
  K (La.idx_R s c)
structure L.i1 (s : ByteArray) (c : Int) (K : Int → Prop) : Prop where
  out : L.i1_B s c K
def L.i1_ss : List Sh := [.str, .int .u8]
def L.i1_G (vs : List V) (K : V → List Ob → Prop) : Prop := L.i1 (gS (gA vs 0)) (gI (gA vs 1)) (fun r0 => K (.xi r0) [])
def L.i1_S : SemF := fun args K => argF L.i1_ss args fun a => L.i1_G a K
theorem L.i1_ok : SoundFn L.pg 84 L.i1_S := SoundFn.of_imp La.idx_ok fun args K h => argF_mono (fun a h => h.out) h
def L.Γ_c0 : Ctx := ctxC L.Γ_i1 84 L.i1_S
theorem L.Γ_c0_ok : SoundG L.pg L.Γ_c0 := ctxC_ok L.Γ_i1_ok L.i1_ok
def L.Δ_c0 : CtxO := L.Δ_i1
theorem L.Δ_c0_ok : SoundGO L.pg L.Δ_c0 := L.Δ_i1_ok
def L.c0_L1_b (v9 : L.yf) (v10 : Int) (v11 : Int) (self : Int → Prop) (Kx0 : Prop) (Kr : Int → Int → Prop) : Prop :=
  (bif (decide (v11 < v10)) then (inB v11 v9.length) ∧ (bif (decide (((v9.getD v11.toNat ByteArray.empty).size : Int) > 80)) then Kr 2 v11 else L.i1 (v9.getD v11.toNat ByteArray.empty) 10 (fun r => (bif (decide (r ≥ 0)) then Kr 5 v11 else self (i64 (v11 + 1))))) else Kx0)
def L.c0_L1_R (v9 : L.yf) (v10 : Int) : Nat → Int → (Prop) → (Int → Int → Prop) → Prop
  | 0, _, _, _ => False
  | fu + 1, v11, Kx0, Kr => L.c0_L1_b v9 v10 v11 (fun v11 => L.c0_L1_R v9 v10 fu v11 Kx0 Kr) Kx0 Kr
structure L.c0_L1 (v9 : L.yf) (v10 : Int) (v11 : Int) (Kx0 : Prop) (Kr : Int → Int → Prop) : Prop where
  out : ∃ fu, L.c0_L1_R v9 v10 fu v11 Kx0 Kr
def L.c0_L1_d : LoopD := { base := 1, vecs := [], flds := [], keep := [2, 9, 10, 11], out := [2], rets := [2], rv := [], rbase := 0 }
def L.c0_L1_ss : List Sh := [.cl 0 0, .ro .str, .int .i64, .int .i64]
def L.c0_L1_os : List OSh := [.cells [.int .i64, .int .i64]]
def L.c0_L1_G (vs : List V) (st : List Ob) (K : Ex → St) : Prop := L.c0_L1 (gR .str (gA vs 1)) (gI (gA vs 2)) (gI (gA vs 3)) (K (.exit 0) (bld [2] [.cl 0 0] 0 28) [.cells [.xi (cI st 0 0), .xi (cI st 0 1)]]) (fun q0_ q1_ => K .ret (bld [2] [.cl 0 0] 0 28) [.cells [.xi q0_, .xi q1_]])
def L.c0_L1_F (vs : List V) (st : List Ob) (K : Ex → St) : Prop := fitF L.c0_L1_ss L.c0_L1_os vs st (L.c0_L1_G vs st K)
theorem L.c0_L1_eq (v9 : L.yf) (v10 : Int) (m0 : Int) (m01 : Int) (K : Ex → St) : ∀ (fu : Nat) (v11 : Int), L.c0_L1_R v9 v10 fu v11 (K (.exit 0) (bld [2] [.cl 0 0] 0 28) [.cells [.xi m0, .xi m01]]) (fun q0_ q1_ => K .ret (bld [2] [.cl 0 0] 0 28) [.cells [.xi q0_, .xi q1_]]) = iterL (stepL (exec L.pg (CC L.pg L.Γ_c0 L.Δ_c0) (drawD L.pg L.Γ_c0 L.Δ_c0) .leaf (sub [true, true, false, true, false, false] (codeOf Tryz.f73))) 1 L.c0_L1_d K) fu (bld L.c0_L1_d.keep [.cl 0 0, .ro .str v9, .xi v10, .xi v11] 0 28) [.cells [.xi m0, .xi m01]] := by
  intro fu
  induction fu with
  | zero => intros; rfl
  | succ fu ih =>
    intro v11
    have e : (fun v11 => L.c0_L1_R v9 v10 fu v11 (K (.exit 0) (bld [2] [.cl 0 0] 0 28) [.cells [.xi m0, .xi m01]]) (fun q0_ q1_ => K .ret (bld [2] [.cl 0 0] 0 28) [.cells [.xi q0_, .xi q1_]])) = fun v11 => iterL (stepL (exec L.pg (CC L.pg L.Γ_c0 L.Δ_c0) (drawD L.pg L.Γ_c0 L.Δ_c0) .leaf (sub [true, true, false, true, false, false] (codeOf Tryz.f73))) 1 L.c0_L1_d K) fu (bld L.c0_L1_d.keep [.cl 0 0, .ro .str v9, .xi v10, .xi v11] 0 28) [.cells [.xi m0, .xi m01]] := by
      funext v11; exact ih v11
    show L.c0_L1_b v9 v10 v11 (fun v11 => L.c0_L1_R v9 v10 fu v11 (K (.exit 0) (bld [2] [.cl 0 0] 0 28) [.cells [.xi m0, .xi m01]]) (fun q0_ q1_ => K .ret (bld [2] [.cl 0 0] 0 28) [.cells [.xi q0_, .xi q1_]])) (K (.exit 0) (bld [2] [.cl 0 0] 0 28) [.cells [.xi m0, .xi m01]]) (fun q0_ q1_ => K .ret (bld [2] [.cl 0 0] 0 28) [.cells [.xi q0_, .xi q1_]]) = _
    rw [e]
    kernel_rfl
theorem L.c0_L1_imp (vs : List V) (st : List Ob) (K : Ex → St) (h : L.c0_L1_G vs st K) : ∃ fu, iterL (stepL (exec L.pg (CC L.pg L.Γ_c0 L.Δ_c0) (drawD L.pg L.Γ_c0 L.Δ_c0) .leaf (sub [true, true, false, true, false, false] (codeOf Tryz.f73))) 1 L.c0_L1_d K) fu (bld L.c0_L1_d.keep (mkL L.c0_L1_ss 0 vs) 0 28) (mkOs L.c0_L1_os 0 st) :=
  exMap (fun fu h => @Eq.mp _ _ (Eq.trans (L.c0_L1_eq (gR .str (gA vs 1)) (gI (gA vs 2)) (cI st 0 0) (cI st 0 1) K fu (gI (gA vs 3))) (by kernel_rfl)) h) (L.c0_L1.out h)
theorem L.c0_L1_ok : AnnOk L.pg (CC L.pg L.Γ_c0 L.Δ_c0) (drawD L.pg L.Γ_c0 L.Δ_c0) 0 (.lift L.c0_L1_d 28 L.c0_L1_F) (.loop (sub [true, true, false, true, false, false] (codeOf Tryz.f73))) :=
  lift_ok (an := .leaf) (ss := L.c0_L1_ss) (os := L.c0_L1_os) (G := L.c0_L1_G) rfl (Nat.le_of_ble_eq_true rfl) (annOk_leaf _) (L.c0_L1_imp)
def L.c0_B (lines : L.yf) (K : Int → Int → Prop) : Prop :=
  (bif (decide ((lines.length : Int) > 120)) then K 2 (-1) else L.c0_L1 lines (lines.length : Int) 0 (K 0 0) (fun m m1 => K m m1))
structure L.c0 (lines : L.yf) (K : Int → Int → Prop) : Prop where
  out : L.c0_B lines K
def L.c0_ss : List Sh := [.ro .str]
def L.c0_G (vs : List V) (K : V → List Ob → Prop) : Prop := L.c0 (gR .str (gA vs 0)) (fun r0 r1 => K (.agg [.xi r0, .xi r1]) [])
def L.c0_S : SemF := fun args K => argF L.c0_ss args fun a => L.c0_G a K
theorem L.c0_eq (lines : L.yf) (K : V → List Ob → Prop) : run L.pg L.Γ_c0 L.Δ_c0 (.node .leaf (.node .leaf (.node (.node .leaf (.lift L.c0_L1_d 28 L.c0_L1_F)) .leaf))) .any Tryz.f73 [.ro .str lines] K = L.c0_B lines (fun r0 r1 => K (.agg [.xi r0, .xi r1]) []) := by
  kernel_rfl
theorem L.c0_imp (vs : List V) (K : V → List Ob → Prop) : Imp (L.c0_G vs K) (run L.pg L.Γ_c0 L.Δ_c0 (.node .leaf (.node .leaf (.node (.node .leaf (.lift L.c0_L1_d 28 L.c0_L1_F)) .leaf))) .any Tryz.f73 (mkL L.c0_ss 0 vs) K) :=
  Imp.of (Eq.trans (b := run L.pg L.Γ_c0 L.Δ_c0 (.node .leaf (.node .leaf (.node (.node .leaf (.lift L.c0_L1_d 28 L.c0_L1_F)) .leaf))) .any Tryz.f73 [.ro .str (gR .str (gA vs 0))] K) (by kernel_rfl) (L.c0_eq (gR .str (gA vs 0)) K)) fun h => (L.c0.out h)
theorem L.c0_ok : SoundFn L.pg 73 L.c0_S :=
  fn_ok (sem := run L.pg L.Γ_c0 L.Δ_c0 (.node .leaf (.node .leaf (.node (.node .leaf (.lift L.c0_L1_d 28 L.c0_L1_F)) .leaf))) .any Tryz.f73) (ss := L.c0_ss) (G := L.c0_G) (run_ok L.Γ_c0_ok L.Δ_c0_ok Tryz.func73 (ann := (.node .leaf (.node .leaf (.node (.node .leaf (.lift L.c0_L1_d 28 L.c0_L1_F)) .leaf)))) ⟨(annOk_leaf _), ⟨(annOk_leaf _), ⟨⟨(annOk_leaf _), L.c0_L1_ok⟩, (annOk_leaf _)⟩⟩⟩) L.c0_imp
def L.Γ_g1 : Ctx := ctxC L.Γ_c0 73 L.c0_S
theorem L.Γ_g1_ok : SoundG L.pg L.Γ_g1 := ctxC_ok L.Γ_c0_ok L.c0_ok
def L.Δ_g1 : CtxO := L.Δ_c0
theorem L.Δ_g1_ok : SoundGO L.pg L.Δ_g1 := L.Δ_c0_ok
def L.g1_B (b : L.yf) (index : Int) (K : Int → Int → Prop) : Prop :=
  L.c0 b (fun rCode rIndex => (bif (!((rCode == 0) && ((rIndex == 0) && true))) then K rCode index else K 0 0))
structure L.g1 (b : L.yf) (index : Int) (K : Int → Int → Prop) : Prop where
  out : L.g1_B b index K
def L.g1_ss : List Sh := [.ro .str, .int .i64]
def L.g1_G (vs : List V) (K : V → List Ob → Prop) : Prop := L.g1 (gR .str (gA vs 0)) (gI (gA vs 1)) (fun r0 r1 => K (.agg [.xi r0, .xi r1]) [])
def L.g1_S : SemF := fun args K => argF L.g1_ss args fun a => L.g1_G a K
theorem L.g1_eq (b : L.yf) (index : Int) (K : V → List Ob → Prop) : run L.pg L.Γ_g1 L.Δ_g1 .leaf .any Tryz.f62 [.ro .str b, .xi index] K = L.g1_B b index (fun r0 r1 => K (.agg [.xi r0, .xi r1]) []) := by
  kernel_rfl
theorem L.g1_imp (vs : List V) (K : V → List Ob → Prop) : Imp (L.g1_G vs K) (run L.pg L.Γ_g1 L.Δ_g1 .leaf .any Tryz.f62 (mkL L.g1_ss 0 vs) K) :=
  Imp.of (Eq.trans (b := run L.pg L.Γ_g1 L.Δ_g1 .leaf .any Tryz.f62 [.ro .str (gR .str (gA vs 0)), .xi (gI (gA vs 1))] K) (by kernel_rfl) (L.g1_eq (gR .str (gA vs 0)) (gI (gA vs 1)) K)) fun h => (L.g1.out h)
theorem L.g1_ok : SoundFn L.pg 62 L.g1_S :=
  fn_ok (sem := run L.pg L.Γ_g1 L.Δ_g1 .leaf .any Tryz.f62) (ss := L.g1_ss) (G := L.g1_G) (run_ok L.Γ_g1_ok L.Δ_g1_ok Tryz.func62 (ann := .leaf) (annOk_leaf _)) L.g1_imp
def L.Γ_c8 : Ctx := ctxC L.Γ_g1 62 L.g1_S
theorem L.Γ_c8_ok : SoundG L.pg L.Γ_c8 := ctxC_ok L.Γ_g1_ok L.g1_ok
def L.Δ_c8 : CtxO := L.Δ_g1
theorem L.Δ_c8_ok : SoundGO L.pg L.Δ_c8 := L.Δ_g1_ok
def L.c8_L1_b (v12 : L.T11) (v13 : Int) (t : L.T11) (v14 : Int) (self : Int → Prop) (Kx0 : Prop) (Kr : Int → Int → Prop) : Prop :=
  (bif (decide (v14 < v13)) then (inB v14 v12.length) ∧ L.i0 ((v12.getD v14.toNat (ByteArray.empty, [])).1) (fun r => (bif (!r) then Kr 12 v14 else ((((decide (v14 > 0)) == true) = true → inB (i64 (v14 - 1)) t.length)) ∧ (bif (bif (decide (v14 > 0)) then ((Op.bytesLess ((v12.getD v14.toNat (ByteArray.empty, [])).1).toList ((t.getD ((i64 (v14 - 1)).toNat) (ByteArray.empty, [])).1).toList) || (((v12.getD v14.toNat (ByteArray.empty, [])).1).toList == ((t.getD ((i64 (v14 - 1)).toNat) (ByteArray.empty, [])).1).toList)) else false) then Kr 5 v14 else (0 ≤ v14 ∧ v14 ≤ t.length) ∧ L.a4 (t.take v14.toNat) ((v12.getD v14.toNat (ByteArray.empty, [])).1) (-1) (fun r1 => (bif r1 then Kr 7 v14 else L.g1 ((v12.getD v14.toNat (ByteArray.empty, [])).2) v14 (fun rCode rIndex => (bif (!((rCode == 0) && ((rIndex == 0) && true))) then Kr rCode rIndex else self (i64 (v14 + 1))))))))) else Kx0)
def L.c8_L1_R (v12 : L.T11) (v13 : Int) (t : L.T11) : Nat → Int → (Prop) → (Int → Int → Prop) → Prop
  | 0, _, _, _ => False
  | fu + 1, v14, Kx0, Kr => L.c8_L1_b v12 v13 t v14 (fun v14 => L.c8_L1_R v12 v13 t fu v14 Kx0 Kr) Kx0 Kr
structure L.c8_L1 (v12 : L.T11) (v13 : Int) (t : L.T11) (v14 : Int) (Kx0 : Prop) (Kr : Int → Int → Prop) : Prop where
  out : ∃ fu, L.c8_L1_R v12 v13 t fu v14 Kx0 Kr
def L.c8_L1_d : LoopD := { base := 2, vecs := [], flds := [], keep := [1, 2, 12, 13, 14], out := [2], rets := [2], rv := [], rbase := 0 }
def L.c8_L1_ss : List Sh := [.cl 0 0, .cl 1 0, .ro L.yc, .int .i64, .int .i64]
def L.c8_L1_os : List OSh := [.cells [.ro L.yc], .cells [.int .i64, .int .i64]]
def L.c8_L1_G (vs : List V) (st : List Ob) (K : Ex → St) : Prop := L.c8_L1 (gR L.yc (gA vs 2)) (gI (gA vs 3)) (gR L.yc ((oC (gD st 0)).getD 0 .any)) (gI (gA vs 4)) (K (.exit 0) (bld [2] [.cl 1 0] 0 63) [.cells [.ro L.yc (gR L.yc ((oC (gD st 0)).getD 0 .any))], .cells [.xi (cI st 1 0), .xi (cI st 1 1)]]) (fun q0_ q1_ => K .ret (bld [2] [.cl 0 0] 0 63) [.cells [.xi q0_, .xi q1_]])
def L.c8_L1_F (vs : List V) (st : List Ob) (K : Ex → St) : Prop := fitF L.c8_L1_ss L.c8_L1_os vs st (L.c8_L1_G vs st K)
theorem L.c8_L1_eq (v12 : L.T11) (v13 : Int) (t : L.T11) (m1 : Int) (m11 : Int) (K : Ex → St) : ∀ (fu : Nat) (v14 : Int), L.c8_L1_R v12 v13 t fu v14 (K (.exit 0) (bld [2] [.cl 1 0] 0 63) [.cells [.ro L.yc t], .cells [.xi m1, .xi m11]]) (fun q0_ q1_ => K .ret (bld [2] [.cl 0 0] 0 63) [.cells [.xi q0_, .xi q1_]]) = iterL (stepL (exec L.pg (CC L.pg L.Γ_c8 L.Δ_c8) (drawD L.pg L.Γ_c8 L.Δ_c8) .leaf (sub [true, true, false, true, false, false] (codeOf Tryz.f55))) 2 L.c8_L1_d K) fu (bld L.c8_L1_d.keep [.cl 0 0, .cl 1 0, .ro L.yc v12, .xi v13, .xi v14] 0 63) [.cells [.ro L.yc t], .cells [.xi m1, .xi m11]] := by
  intro fu
  induction fu with
  | zero => intros; rfl
  | succ fu ih =>
    intro v14
    have e : (fun v14 => L.c8_L1_R v12 v13 t fu v14 (K (.exit 0) (bld [2] [.cl 1 0] 0 63) [.cells [.ro L.yc t], .cells [.xi m1, .xi m11]]) (fun q0_ q1_ => K .ret (bld [2] [.cl 0 0] 0 63) [.cells [.xi q0_, .xi q1_]])) = fun v14 => iterL (stepL (exec L.pg (CC L.pg L.Γ_c8 L.Δ_c8) (drawD L.pg L.Γ_c8 L.Δ_c8) .leaf (sub [true, true, false, true, false, false] (codeOf Tryz.f55))) 2 L.c8_L1_d K) fu (bld L.c8_L1_d.keep [.cl 0 0, .cl 1 0, .ro L.yc v12, .xi v13, .xi v14] 0 63) [.cells [.ro L.yc t], .cells [.xi m1, .xi m11]] := by
      funext v14; exact ih v14
    show L.c8_L1_b v12 v13 t v14 (fun v14 => L.c8_L1_R v12 v13 t fu v14 (K (.exit 0) (bld [2] [.cl 1 0] 0 63) [.cells [.ro L.yc t], .cells [.xi m1, .xi m11]]) (fun q0_ q1_ => K .ret (bld [2] [.cl 0 0] 0 63) [.cells [.xi q0_, .xi q1_]])) (K (.exit 0) (bld [2] [.cl 1 0] 0 63) [.cells [.ro L.yc t], .cells [.xi m1, .xi m11]]) (fun q0_ q1_ => K .ret (bld [2] [.cl 0 0] 0 63) [.cells [.xi q0_, .xi q1_]]) = _
    rw [e]
    kernel_rfl
theorem L.c8_L1_imp (vs : List V) (st : List Ob) (K : Ex → St) (h : L.c8_L1_G vs st K) : ∃ fu, iterL (stepL (exec L.pg (CC L.pg L.Γ_c8 L.Δ_c8) (drawD L.pg L.Γ_c8 L.Δ_c8) .leaf (sub [true, true, false, true, false, false] (codeOf Tryz.f55))) 2 L.c8_L1_d K) fu (bld L.c8_L1_d.keep (mkL L.c8_L1_ss 0 vs) 0 63) (mkOs L.c8_L1_os 0 st) :=
  exMap (fun fu h => @Eq.mp _ _ (Eq.trans (L.c8_L1_eq (gR L.yc (gA vs 2)) (gI (gA vs 3)) (gR L.yc ((oC (gD st 0)).getD 0 .any)) (cI st 1 0) (cI st 1 1) K fu (gI (gA vs 4))) (by kernel_rfl)) h) (L.c8_L1.out h)
theorem L.c8_L1_ok : AnnOk L.pg (CC L.pg L.Γ_c8 L.Δ_c8) (drawD L.pg L.Γ_c8 L.Δ_c8) 0 (.lift L.c8_L1_d 63 L.c8_L1_F) (.loop (sub [true, true, false, true, false, false] (codeOf Tryz.f55))) :=
  lift_ok (an := .leaf) (ss := L.c8_L1_ss) (os := L.c8_L1_os) (G := L.c8_L1_G) rfl (Nat.le_of_ble_eq_true rfl) (annOk_leaf _) (L.c8_L1_imp)
def L.c8_B (t_Files : L.T11) (K : Int → Int → Prop) : Prop :=
  (bif (decide ((t_Files.length : Int) > 24)) then K 2 (-1) else L.c8_L1 t_Files (t_Files.length : Int) t_Files 0 (K 0 0) (fun t r => K t r))
structure L.c8 (t_Files : L.T11) (K : Int → Int → Prop) : Prop where
  out : L.c8_B t_Files K
def L.c8_ss : List Sh := [.agg [.ro L.yc]]
def L.c8_G (vs : List V) (K : V → List Ob → Prop) : Prop := L.c8 (gR L.yc ((gC (gA vs 0)).getD 0 .any)) (fun r0 r1 => K (.agg [.xi r0, .xi r1]) [])
def L.c8_S : SemF := fun args K => argF L.c8_ss args fun a => L.c8_G a K
theorem L.c8_eq (t_Files : L.T11) (K : V → List Ob → Prop) : run L.pg L.Γ_c8 L.Δ_c8 (.node .leaf (.node .leaf (.node (.node .leaf (.lift L.c8_L1_d 63 L.c8_L1_F)) .leaf))) .any Tryz.f55 [.agg [.ro L.yc t_Files]] K = L.c8_B t_Files (fun r0 r1 => K (.agg [.xi r0, .xi r1]) []) := by
  kernel_rfl
theorem L.c8_imp (vs : List V) (K : V → List Ob → Prop) : Imp (L.c8_G vs K) (run L.pg L.Γ_c8 L.Δ_c8 (.node .leaf (.node .leaf (.node (.node .leaf (.lift L.c8_L1_d 63 L.c8_L1_F)) .leaf))) .any Tryz.f55 (mkL L.c8_ss 0 vs) K) :=
  Imp.of (Eq.trans (b := run L.pg L.Γ_c8 L.Δ_c8 (.node .leaf (.node .leaf (.node (.node .leaf (.lift L.c8_L1_d 63 L.c8_L1_F)) .leaf))) .any Tryz.f55 [.agg [.ro L.yc (gR L.yc ((gC (gA vs 0)).getD 0 .any))]] K) (by kernel_rfl) (L.c8_eq (gR L.yc ((gC (gA vs 0)).getD 0 .any)) K)) fun h => (L.c8.out h)
theorem L.c8_ok : SoundFn L.pg 55 L.c8_S :=
  fn_ok (sem := run L.pg L.Γ_c8 L.Δ_c8 (.node .leaf (.node .leaf (.node (.node .leaf (.lift L.c8_L1_d 63 L.c8_L1_F)) .leaf))) .any Tryz.f55) (ss := L.c8_ss) (G := L.c8_G) (run_ok L.Γ_c8_ok L.Δ_c8_ok Tryz.func55 (ann := (.node .leaf (.node .leaf (.node (.node .leaf (.lift L.c8_L1_d 63 L.c8_L1_F)) .leaf)))) ⟨(annOk_leaf _), ⟨(annOk_leaf _), ⟨⟨(annOk_leaf _), L.c8_L1_ok⟩, (annOk_leaf _)⟩⟩⟩) L.c8_imp
def L.Γ_f9 : Ctx := ctxC L.Γ_c8 55 L.c8_S
theorem L.Γ_f9_ok : SoundG L.pg L.Γ_f9 := ctxC_ok L.Γ_c8_ok L.c8_ok
def L.Δ_f9 : CtxO := L.Δ_c8
theorem L.Δ_f9_ok : SoundGO L.pg L.Δ_f9 := L.Δ_c8_ok
def L.f9_B (t_Files : L.T11) (index : Int) (K : Int → Int → Prop) : Prop :=
  L.c8 t_Files (fun rCode rIndex => (bif (!((rCode == 0) && ((rIndex == 0) && true))) then K rCode index else K 0 0))
structure L.f9 (t_Files : L.T11) (index : Int) (K : Int → Int → Prop) : Prop where
  out : L.f9_B t_Files index K
def L.f9_ss : List Sh := [.agg [.ro L.yc], .int .i64]
def L.f9_G (vs : List V) (K : V → List Ob → Prop) : Prop := L.f9 (gR L.yc ((gC (gA vs 0)).getD 0 .any)) (gI (gA vs 1)) (fun r0 r1 => K (.agg [.xi r0, .xi r1]) [])
def L.f9_S : SemF := fun args K => argF L.f9_ss args fun a => L.f9_G a K
theorem L.f9_eq (t_Files : L.T11) (index : Int) (K : V → List Ob → Prop) : run L.pg L.Γ_f9 L.Δ_f9 .leaf .any Tryz.f42 [.agg [.ro L.yc t_Files], .xi index] K = L.f9_B t_Files index (fun r0 r1 => K (.agg [.xi r0, .xi r1]) []) := by
  kernel_rfl
theorem L.f9_imp (vs : List V) (K : V → List Ob → Prop) : Imp (L.f9_G vs K) (run L.pg L.Γ_f9 L.Δ_f9 .leaf .any Tryz.f42 (mkL L.f9_ss 0 vs) K) :=
  Imp.of (Eq.trans (b := run L.pg L.Γ_f9 L.Δ_f9 .leaf .any Tryz.f42 [.agg [.ro L.yc (gR L.yc ((gC (gA vs 0)).getD 0 .any))], .xi (gI (gA vs 1))] K) (by kernel_rfl) (L.f9_eq (gR L.yc ((gC (gA vs 0)).getD 0 .any)) (gI (gA vs 1)) K)) fun h => (L.f9.out h)
theorem L.f9_ok : SoundFn L.pg 42 L.f9_S :=
  fn_ok (sem := run L.pg L.Γ_f9 L.Δ_f9 .leaf .any Tryz.f42) (ss := L.f9_ss) (G := L.f9_G) (run_ok L.Γ_f9_ok L.Δ_f9_ok Tryz.func42 (ann := .leaf) (annOk_leaf _)) L.f9_imp
def L.Γ_f2 : Ctx := ctxC L.Γ_f9 42 L.f9_S
theorem L.Γ_f2_ok : SoundG L.pg L.Γ_f2 := ctxC_ok L.Γ_f9_ok L.f9_ok
def L.Δ_f2 : CtxO := L.Δ_f9
theorem L.Δ_f2_ok : SoundGO L.pg L.Δ_f2 := L.Δ_f9_ok
def L.f2_B (h_At : Int) (h_Old : L.yf) (h_New : L.yf) (K : Int → Prop) : Prop :=
  K (i64 (h_At + (h_Old.length : Int)))
structure L.f2 (h_At : Int) (h_Old : L.yf) (h_New : L.yf) (K : Int → Prop) : Prop where
  out : L.f2_B h_At h_Old h_New K
def L.f2_ss : List Sh := [.agg [.int .i64, .ro .str, .ro .str]]
def L.f2_G (vs : List V) (K : V → List Ob → Prop) : Prop := L.f2 (gI ((gC (gA vs 0)).getD 0 .any)) (gR .str ((gC (gA vs 0)).getD 1 .any)) (gR .str ((gC (gA vs 0)).getD 2 .any)) (fun r0 => K (.xi r0) [])
def L.f2_S : SemF := fun args K => argF L.f2_ss args fun a => L.f2_G a K
theorem L.f2_eq (h_At : Int) (h_Old : L.yf) (h_New : L.yf) (K : V → List Ob → Prop) : run L.pg L.Γ_f2 L.Δ_f2 .leaf .any Tryz.f86 [.agg [.xi h_At, .ro .str h_Old, .ro .str h_New]] K = L.f2_B h_At h_Old h_New (fun r0 => K (.xi r0) []) := by
  kernel_rfl
theorem L.f2_imp (vs : List V) (K : V → List Ob → Prop) : Imp (L.f2_G vs K) (run L.pg L.Γ_f2 L.Δ_f2 .leaf .any Tryz.f86 (mkL L.f2_ss 0 vs) K) :=
  Imp.of (Eq.trans (b := run L.pg L.Γ_f2 L.Δ_f2 .leaf .any Tryz.f86 [.agg [.xi (gI ((gC (gA vs 0)).getD 0 .any)), .ro .str (gR .str ((gC (gA vs 0)).getD 1 .any)), .ro .str (gR .str ((gC (gA vs 0)).getD 2 .any))]] K) (by kernel_rfl) (L.f2_eq (gI ((gC (gA vs 0)).getD 0 .any)) (gR .str ((gC (gA vs 0)).getD 1 .any)) (gR .str ((gC (gA vs 0)).getD 2 .any)) K)) fun h => (L.f2.out h)
theorem L.f2_ok : SoundFn L.pg 86 L.f2_S :=
  fn_ok (sem := run L.pg L.Γ_f2 L.Δ_f2 .leaf .any Tryz.f86) (ss := L.f2_ss) (G := L.f2_G) (run_ok L.Γ_f2_ok L.Δ_f2_ok Tryz.func86 (ann := .leaf) (annOk_leaf _)) L.f2_imp
def L.Γ_b9 : Ctx := ctxC L.Γ_f2 86 L.f2_S
theorem L.Γ_b9_ok : SoundG L.pg L.Γ_b9 := ctxC_ok L.Γ_f2_ok L.f2_ok
def L.Δ_b9 : CtxO := L.Δ_f2
theorem L.Δ_b9_ok : SoundGO L.pg L.Δ_b9 := L.Δ_f2_ok
def L.b9_L1_b (v20 : L.yf) (v201 : L.yf) (v21 : Int) (self : Int → Prop) (Kx0 : Prop) (Kr : Int → Prop) : Prop :=
  (bif (decide (v21 < 2)) then (inB v21 2) ∧ L.c0 (([v20, v201] : List L.yf).getD v21.toNat []) (fun rCode rIndex => (bif (!((rCode == 0) && ((rIndex == 0) && true))) then Kr rCode else self (i64 (v21 + 1)))) else Kx0)
def L.b9_L1_R (v20 : L.yf) (v201 : L.yf) : Nat → Int → (Prop) → (Int → Prop) → Prop
  | 0, _, _, _ => False
  | fu + 1, v21, Kx0, Kr => L.b9_L1_b v20 v201 v21 (fun v21 => L.b9_L1_R v20 v201 fu v21 Kx0 Kr) Kx0 Kr
structure L.b9_L1 (v20 : L.yf) (v201 : L.yf) (v21 : Int) (Kx0 : Prop) (Kr : Int → Prop) : Prop where
  out : ∃ fu, L.b9_L1_R v20 v201 fu v21 Kx0 Kr
def L.b9_L1_d : LoopD := { base := 1, vecs := [], flds := [], keep := [1, 2, 20, 21], out := [1, 2], rets := [4], rv := [], rbase := 0 }
def L.b9_L1_ss : List Sh := [.int .i64, .cl 0 0, .agg [.ro .str, .ro .str], .int .i64]
def L.b9_L1_os : List OSh := [.cells [.int .i64, .ro .str, .ro .str]]
def L.b9_L1_G (vs : List V) (st : List Ob) (K : Ex → St) : Prop := L.b9_L1 (gR .str ((gC (gA vs 2)).getD 0 .any)) (gR .str ((gC (gA vs 2)).getD 1 .any)) (gI (gA vs 3)) (K (.exit 0) (bld [1, 2] [.xi (gI (gA vs 0)), .cl 0 0] 0 49) [.cells [.xi (cI st 0 0), .ro .str (gR .str ((oC (gD st 0)).getD 1 .any)), .ro .str (gR .str ((oC (gD st 0)).getD 2 .any))]]) (fun q0_ => K .ret (bld [4] [.xi q0_] 0 49) [])
def L.b9_L1_F (vs : List V) (st : List Ob) (K : Ex → St) : Prop := fitF L.b9_L1_ss L.b9_L1_os vs st (L.b9_L1_G vs st K)
theorem L.b9_L1_eq (end_1 : Int) (v20 : L.yf) (v201 : L.yf) (h : Int) (h1 : L.yf) (h2 : L.yf) (K : Ex → St) : ∀ (fu : Nat) (v21 : Int), L.b9_L1_R v20 v201 fu v21 (K (.exit 0) (bld [1, 2] [.xi end_1, .cl 0 0] 0 49) [.cells [.xi h, .ro .str h1, .ro .str h2]]) (fun q0_ => K .ret (bld [4] [.xi q0_] 0 49) []) = iterL (stepL (exec L.pg (CC L.pg L.Γ_b9 L.Δ_b9) (drawD L.pg L.Γ_b9 L.Δ_b9) .leaf (sub [true, true, false, true, false, false] (codeOf Tryz.f85))) 1 L.b9_L1_d K) fu (bld L.b9_L1_d.keep [.xi end_1, .cl 0 0, .agg [.ro .str v20, .ro .str v201], .xi v21] 0 49) [.cells [.xi h, .ro .str h1, .ro .str h2]] := by
  intro fu
  induction fu with
  | zero => intros; rfl
  | succ fu ih =>
    intro v21
    have e : (fun v21 => L.b9_L1_R v20 v201 fu v21 (K (.exit 0) (bld [1, 2] [.xi end_1, .cl 0 0] 0 49) [.cells [.xi h, .ro .str h1, .ro .str h2]]) (fun q0_ => K .ret (bld [4] [.xi q0_] 0 49) [])) = fun v21 => iterL (stepL (exec L.pg (CC L.pg L.Γ_b9 L.Δ_b9) (drawD L.pg L.Γ_b9 L.Δ_b9) .leaf (sub [true, true, false, true, false, false] (codeOf Tryz.f85))) 1 L.b9_L1_d K) fu (bld L.b9_L1_d.keep [.xi end_1, .cl 0 0, .agg [.ro .str v20, .ro .str v201], .xi v21] 0 49) [.cells [.xi h, .ro .str h1, .ro .str h2]] := by
      funext v21; exact ih v21
    show L.b9_L1_b v20 v201 v21 (fun v21 => L.b9_L1_R v20 v201 fu v21 (K (.exit 0) (bld [1, 2] [.xi end_1, .cl 0 0] 0 49) [.cells [.xi h, .ro .str h1, .ro .str h2]]) (fun q0_ => K .ret (bld [4] [.xi q0_] 0 49) [])) (K (.exit 0) (bld [1, 2] [.xi end_1, .cl 0 0] 0 49) [.cells [.xi h, .ro .str h1, .ro .str h2]]) (fun q0_ => K .ret (bld [4] [.xi q0_] 0 49) []) = _
    rw [e]
    kernel_rfl
theorem L.b9_L1_imp (vs : List V) (st : List Ob) (K : Ex → St) (h : L.b9_L1_G vs st K) : ∃ fu, iterL (stepL (exec L.pg (CC L.pg L.Γ_b9 L.Δ_b9) (drawD L.pg L.Γ_b9 L.Δ_b9) .leaf (sub [true, true, false, true, false, false] (codeOf Tryz.f85))) 1 L.b9_L1_d K) fu (bld L.b9_L1_d.keep (mkL L.b9_L1_ss 0 vs) 0 49) (mkOs L.b9_L1_os 0 st) :=
  exMap (fun fu h => @Eq.mp _ _ (Eq.trans (L.b9_L1_eq (gI (gA vs 0)) (gR .str ((gC (gA vs 2)).getD 0 .any)) (gR .str ((gC (gA vs 2)).getD 1 .any)) (cI st 0 0) (gR .str ((oC (gD st 0)).getD 1 .any)) (gR .str ((oC (gD st 0)).getD 2 .any)) K fu (gI (gA vs 3))) (by kernel_rfl)) h) (L.b9_L1.out h)
theorem L.b9_L1_ok : AnnOk L.pg (CC L.pg L.Γ_b9 L.Δ_b9) (drawD L.pg L.Γ_b9 L.Δ_b9) 0 (.lift L.b9_L1_d 49 L.b9_L1_F) (.loop (sub [true, true, false, true, false, false] (codeOf Tryz.f85))) :=
  lift_ok (an := .leaf) (ss := L.b9_L1_ss) (os := L.b9_L1_os) (G := L.b9_L1_G) rfl (Nat.le_of_ble_eq_true rfl) (annOk_leaf _) (L.b9_L1_imp)
def L.b9_B (h_At : Int) (h_Old : L.yf) (h_New : L.yf) (end_ : Int) (K : Int → Prop) : Prop :=
  (bif (bif (decide (h_At < 0)) then true else (decide (h_At > 120))) then K 3 else L.b9_L1 h_Old h_New 0 ((bif (bif ((i64 ((h_Old.length : Int) + (h_New.length : Int))) == 0) then true else (decide (h_At ≤ end_))) then K 5 else L.f2 h_At h_Old h_New (fun r => (bif (decide (r > 120)) then K 3 else K 0)))) (fun r1 => K r1))
structure L.b9 (h_At : Int) (h_Old : L.yf) (h_New : L.yf) (end_ : Int) (K : Int → Prop) : Prop where
  out : L.b9_B h_At h_Old h_New end_ K
def L.b9_ss : List Sh := [.agg [.int .i64, .ro .str, .ro .str], .int .i64]
def L.b9_G (vs : List V) (K : V → List Ob → Prop) : Prop := L.b9 (gI ((gC (gA vs 0)).getD 0 .any)) (gR .str ((gC (gA vs 0)).getD 1 .any)) (gR .str ((gC (gA vs 0)).getD 2 .any)) (gI (gA vs 1)) (fun r0 => K (.xi r0) [])
def L.b9_S : SemF := fun args K => argF L.b9_ss args fun a => L.b9_G a K
theorem L.b9_eq (h_At : Int) (h_Old : L.yf) (h_New : L.yf) (end_ : Int) (K : V → List Ob → Prop) : run L.pg L.Γ_b9 L.Δ_b9 (.node .leaf (.node .leaf (.node (.node .leaf (.lift L.b9_L1_d 49 L.b9_L1_F)) .leaf))) .any Tryz.f85 [.agg [.xi h_At, .ro .str h_Old, .ro .str h_New], .xi end_] K = L.b9_B h_At h_Old h_New end_ (fun r0 => K (.xi r0) []) := by
  kernel_rfl
theorem L.b9_imp (vs : List V) (K : V → List Ob → Prop) : Imp (L.b9_G vs K) (run L.pg L.Γ_b9 L.Δ_b9 (.node .leaf (.node .leaf (.node (.node .leaf (.lift L.b9_L1_d 49 L.b9_L1_F)) .leaf))) .any Tryz.f85 (mkL L.b9_ss 0 vs) K) :=
  Imp.of (Eq.trans (b := run L.pg L.Γ_b9 L.Δ_b9 (.node .leaf (.node .leaf (.node (.node .leaf (.lift L.b9_L1_d 49 L.b9_L1_F)) .leaf))) .any Tryz.f85 [.agg [.xi (gI ((gC (gA vs 0)).getD 0 .any)), .ro .str (gR .str ((gC (gA vs 0)).getD 1 .any)), .ro .str (gR .str ((gC (gA vs 0)).getD 2 .any))], .xi (gI (gA vs 1))] K) (by kernel_rfl) (L.b9_eq (gI ((gC (gA vs 0)).getD 0 .any)) (gR .str ((gC (gA vs 0)).getD 1 .any)) (gR .str ((gC (gA vs 0)).getD 2 .any)) (gI (gA vs 1)) K)) fun h => (L.b9.out h)
theorem L.b9_ok : SoundFn L.pg 85 L.b9_S :=
  fn_ok (sem := run L.pg L.Γ_b9 L.Δ_b9 (.node .leaf (.node .leaf (.node (.node .leaf (.lift L.b9_L1_d 49 L.b9_L1_F)) .leaf))) .any Tryz.f85) (ss := L.b9_ss) (G := L.b9_G) (run_ok L.Γ_b9_ok L.Δ_b9_ok Tryz.func85 (ann := (.node .leaf (.node .leaf (.node (.node .leaf (.lift L.b9_L1_d 49 L.b9_L1_F)) .leaf)))) ⟨(annOk_leaf _), ⟨(annOk_leaf _), ⟨⟨(annOk_leaf _), L.b9_L1_ok⟩, (annOk_leaf _)⟩⟩⟩) L.b9_imp
def L.Γ_c4 : Ctx := ctxC L.Γ_b9 85 L.b9_S
theorem L.Γ_c4_ok : SoundG L.pg L.Γ_c4 := ctxC_ok L.Γ_b9_ok L.b9_ok
def L.Δ_c4 : CtxO := L.Δ_b9
theorem L.Δ_c4_ok : SoundGO L.pg L.Δ_c4 := L.Δ_b9_ok
def L.c4_L1_b (v13 : L.T10) (v14 : Int) (end_ : Int) (v15 : Int) (self : Int → Int → Prop) (Kx0 : Prop) (Kr : Int → Int → Prop) : Prop :=
  (bif (decide (v15 < v14)) then (inB v15 v13.length) ∧ L.b9 ((v13.getD v15.toNat (0, ([], []))).1) ((v13.getD v15.toNat (0, ([], []))).2.1) ((v13.getD v15.toNat (0, ([], []))).2.2) end_ (fun r => (bif (r != 0) then Kr r v15 else L.f2 ((v13.getD v15.toNat (0, ([], []))).1) ((v13.getD v15.toNat (0, ([], []))).2.1) ((v13.getD v15.toNat (0, ([], []))).2.2) (fun r1 => self r1 (i64 (v15 + 1))))) else Kx0)
def L.c4_L1_R (v13 : L.T10) (v14 : Int) : Nat → Int → Int → (Prop) → (Int → Int → Prop) → Prop
  | 0, _, _, _, _ => False
  | fu + 1, end_, v15, Kx0, Kr => L.c4_L1_b v13 v14 end_ v15 (fun end_ v15 => L.c4_L1_R v13 v14 fu end_ v15 Kx0 Kr) Kx0 Kr
structure L.c4_L1 (v13 : L.T10) (v14 : Int) (end_ : Int) (v15 : Int) (Kx0 : Prop) (Kr : Int → Int → Prop) : Prop where
  out : ∃ fu, L.c4_L1_R v13 v14 fu end_ v15 Kx0 Kr
def L.c4_L1_d : LoopD := { base := 2, vecs := [], flds := [], keep := [2, 3, 13, 14, 15], out := [2], rets := [2], rv := [], rbase := 0 }
def L.c4_L1_ss : List Sh := [.cl 1 0, .int .i64, .ro L.T9, .int .i64, .int .i64]
def L.c4_L1_os : List OSh := [.cells [.ro L.T9], .cells [.int .i64, .int .i64]]
def L.c4_L1_G (vs : List V) (st : List Ob) (K : Ex → St) : Prop := L.c4_L1 (gR L.T9 (gA vs 2)) (gI (gA vs 3)) (gI (gA vs 1)) (gI (gA vs 4)) (K (.exit 0) (bld [2] [.cl 1 0] 0 32) [.cells [.ro L.T9 (gR L.T9 ((oC (gD st 0)).getD 0 .any))], .cells [.xi (cI st 1 0), .xi (cI st 1 1)]]) (fun q0_ q1_ => K .ret (bld [2] [.cl 0 0] 0 32) [.cells [.xi q0_, .xi q1_]])
def L.c4_L1_F (vs : List V) (st : List Ob) (K : Ex → St) : Prop := fitF L.c4_L1_ss L.c4_L1_os vs st (L.c4_L1_G vs st K)
theorem L.c4_L1_eq (v13 : L.T10) (v14 : Int) (m0 : L.T10) (m1 : Int) (m11 : Int) (K : Ex → St) : ∀ (fu : Nat) (end_ : Int) (v15 : Int), L.c4_L1_R v13 v14 fu end_ v15 (K (.exit 0) (bld [2] [.cl 1 0] 0 32) [.cells [.ro L.T9 m0], .cells [.xi m1, .xi m11]]) (fun q0_ q1_ => K .ret (bld [2] [.cl 0 0] 0 32) [.cells [.xi q0_, .xi q1_]]) = iterL (stepL (exec L.pg (CC L.pg L.Γ_c4 L.Δ_c4) (drawD L.pg L.Γ_c4 L.Δ_c4) .leaf (sub [true, true, true, false, true, false, false] (codeOf Tryz.f74))) 2 L.c4_L1_d K) fu (bld L.c4_L1_d.keep [.cl 1 0, .xi end_, .ro L.T9 v13, .xi v14, .xi v15] 0 32) [.cells [.ro L.T9 m0], .cells [.xi m1, .xi m11]] := by
  intro fu
  induction fu with
  | zero => intros; rfl
  | succ fu ih =>
    intro end_ v15
    have e : (fun end_ v15 => L.c4_L1_R v13 v14 fu end_ v15 (K (.exit 0) (bld [2] [.cl 1 0] 0 32) [.cells [.ro L.T9 m0], .cells [.xi m1, .xi m11]]) (fun q0_ q1_ => K .ret (bld [2] [.cl 0 0] 0 32) [.cells [.xi q0_, .xi q1_]])) = fun end_ v15 => iterL (stepL (exec L.pg (CC L.pg L.Γ_c4 L.Δ_c4) (drawD L.pg L.Γ_c4 L.Δ_c4) .leaf (sub [true, true, true, false, true, false, false] (codeOf Tryz.f74))) 2 L.c4_L1_d K) fu (bld L.c4_L1_d.keep [.cl 1 0, .xi end_, .ro L.T9 v13, .xi v14, .xi v15] 0 32) [.cells [.ro L.T9 m0], .cells [.xi m1, .xi m11]] := by
      funext end_ v15; exact ih end_ v15
    show L.c4_L1_b v13 v14 end_ v15 (fun end_ v15 => L.c4_L1_R v13 v14 fu end_ v15 (K (.exit 0) (bld [2] [.cl 1 0] 0 32) [.cells [.ro L.T9 m0], .cells [.xi m1, .xi m11]]) (fun q0_ q1_ => K .ret (bld [2] [.cl 0 0] 0 32) [.cells [.xi q0_, .xi q1_]])) (K (.exit 0) (bld [2] [.cl 1 0] 0 32) [.cells [.ro L.T9 m0], .cells [.xi m1, .xi m11]]) (fun q0_ q1_ => K .ret (bld [2] [.cl 0 0] 0 32) [.cells [.xi q0_, .xi q1_]]) = _
    rw [e]
    kernel_rfl
theorem L.c4_L1_imp (vs : List V) (st : List Ob) (K : Ex → St) (h : L.c4_L1_G vs st K) : ∃ fu, iterL (stepL (exec L.pg (CC L.pg L.Γ_c4 L.Δ_c4) (drawD L.pg L.Γ_c4 L.Δ_c4) .leaf (sub [true, true, true, false, true, false, false] (codeOf Tryz.f74))) 2 L.c4_L1_d K) fu (bld L.c4_L1_d.keep (mkL L.c4_L1_ss 0 vs) 0 32) (mkOs L.c4_L1_os 0 st) :=
  exMap (fun fu h => @Eq.mp _ _ (Eq.trans (L.c4_L1_eq (gR L.T9 (gA vs 2)) (gI (gA vs 3)) (gR L.T9 ((oC (gD st 0)).getD 0 .any)) (cI st 1 0) (cI st 1 1) K fu (gI (gA vs 1)) (gI (gA vs 4))) (by kernel_rfl)) h) (L.c4_L1.out h)
theorem L.c4_L1_ok : AnnOk L.pg (CC L.pg L.Γ_c4 L.Δ_c4) (drawD L.pg L.Γ_c4 L.Δ_c4) 0 (.lift L.c4_L1_d 32 L.c4_L1_F) (.loop (sub [true, true, true, false, true, false, false] (codeOf Tryz.f74))) :=
  lift_ok (an := .leaf) (ss := L.c4_L1_ss) (os := L.c4_L1_os) (G := L.c4_L1_G) rfl (Nat.le_of_ble_eq_true rfl) (annOk_leaf _) (L.c4_L1_imp)
def L.c4_B (p_Hunks : L.T10) (K : Int → Int → Prop) : Prop :=
  (bif (decide ((p_Hunks.length : Int) > 130)) then K 2 (-1) else L.c4_L1 p_Hunks (p_Hunks.length : Int) (-1) 0 (K 0 0) (fun m r => K m r))
structure L.c4 (p_Hunks : L.T10) (K : Int → Int → Prop) : Prop where
  out : L.c4_B p_Hunks K
def L.c4_ss : List Sh := [.agg [.ro L.T9]]
def L.c4_G (vs : List V) (K : V → List Ob → Prop) : Prop := L.c4 (gR L.T9 ((gC (gA vs 0)).getD 0 .any)) (fun r0 r1 => K (.agg [.xi r0, .xi r1]) [])
def L.c4_S : SemF := fun args K => argF L.c4_ss args fun a => L.c4_G a K
theorem L.c4_eq (p_Hunks : L.T10) (K : V → List Ob → Prop) : run L.pg L.Γ_c4 L.Δ_c4 (.node .leaf (.node .leaf (.node .leaf (.node (.node .leaf (.lift L.c4_L1_d 32 L.c4_L1_F)) .leaf)))) .any Tryz.f74 [.agg [.ro L.T9 p_Hunks]] K = L.c4_B p_Hunks (fun r0 r1 => K (.agg [.xi r0, .xi r1]) []) := by
  kernel_rfl
theorem L.c4_imp (vs : List V) (K : V → List Ob → Prop) : Imp (L.c4_G vs K) (run L.pg L.Γ_c4 L.Δ_c4 (.node .leaf (.node .leaf (.node .leaf (.node (.node .leaf (.lift L.c4_L1_d 32 L.c4_L1_F)) .leaf)))) .any Tryz.f74 (mkL L.c4_ss 0 vs) K) :=
  Imp.of (Eq.trans (b := run L.pg L.Γ_c4 L.Δ_c4 (.node .leaf (.node .leaf (.node .leaf (.node (.node .leaf (.lift L.c4_L1_d 32 L.c4_L1_F)) .leaf)))) .any Tryz.f74 [.agg [.ro L.T9 (gR L.T9 ((gC (gA vs 0)).getD 0 .any))]] K) (by kernel_rfl) (L.c4_eq (gR L.T9 ((gC (gA vs 0)).getD 0 .any)) K)) fun h => (L.c4.out h)
theorem L.c4_ok : SoundFn L.pg 74 L.c4_S :=
  fn_ok (sem := run L.pg L.Γ_c4 L.Δ_c4 (.node .leaf (.node .leaf (.node .leaf (.node (.node .leaf (.lift L.c4_L1_d 32 L.c4_L1_F)) .leaf)))) .any Tryz.f74) (ss := L.c4_ss) (G := L.c4_G) (run_ok L.Γ_c4_ok L.Δ_c4_ok Tryz.func74 (ann := (.node .leaf (.node .leaf (.node .leaf (.node (.node .leaf (.lift L.c4_L1_d 32 L.c4_L1_F)) .leaf))))) ⟨(annOk_leaf _), ⟨(annOk_leaf _), ⟨(annOk_leaf _), ⟨⟨(annOk_leaf _), L.c4_L1_ok⟩, (annOk_leaf _)⟩⟩⟩⟩) L.c4_imp
def L.Γ_a2 : Ctx := ctxC L.Γ_c4 74 L.c4_S
theorem L.Γ_a2_ok : SoundG L.pg L.Γ_a2 := ctxC_ok L.Γ_c4_ok L.c4_ok
def L.Δ_a2 : CtxO := L.Δ_c4
theorem L.Δ_a2_ok : SoundGO L.pg L.Δ_a2 := L.Δ_c4_ok
def L.a2_J3_B (c3 : L.yf) (c4 : L.T10) (Kr : Int → Prop) : Prop :=
  L.c0 c3 (fun rCode rIndex => (bif (!((rCode == 0) && ((rIndex == 0) && true))) then Kr rCode else L.c4 c4 (fun rCode1 rIndex1 => Kr rCode1)))
structure L.a2_J3 (c3 : L.yf) (c4 : L.T10) (Kr : Int → Prop) : Prop where
  out : L.a2_J3_B c3 c4 Kr
def L.a2_J3_d : CutD := { base := 1, vecs := [], flds := [], keep := [1], out := [], rets := [2], ovecs := [], oflds := [], rv := [], rbase := 0 }
def L.a2_J3_ss : List Sh := [.cl 0 0]
def L.a2_J3_os : List OSh := [.cells [.int .i64, .str, .str, .ro .str, .ro L.T9]]
def L.a2_J3_G (vs : List V) (st : List Ob) (K : Ex → St) : Prop := L.a2_J3 (gR .str ((oC (gD st 0)).getD 3 .any)) (gR L.T9 ((oC (gD st 0)).getD 4 .any)) (fun q0_ => K .ret (bld [2] [.xi q0_] 0 84) [])
def L.a2_J3_F (vs : List V) (st : List Ob) (K : Ex → St) : Prop := fitF L.a2_J3_ss L.a2_J3_os vs st (L.a2_J3_G vs st K)
theorem L.a2_J3_eq (c : Int) (c1 : ByteArray) (c2 : ByteArray) (c3 : L.yf) (c4 : L.T10) (K : Ex → St) : L.a2_J3_B c3 c4 (fun q0_ => K .ret (bld [2] [.xi q0_] 0 84) []) = exec L.pg (CC L.pg L.Γ_a2 L.Δ_a2) (drawD L.pg L.Γ_a2 L.Δ_a2) .leaf (sub [true, true, true] (codeOf Tryz.f63)) (bld L.a2_J3_d.keep [.cl 0 0] 0 84) [.cells [.xi c, .x (.string c1), .x (.string c2), .ro .str c3, .ro L.T9 c4]] (cutK L.a2_J3_d K) := by
  kernel_rfl
theorem L.a2_J3_ok (vs : List V) (st : List Ob) (K : Ex → St) : Imp (L.a2_J3_G vs st K) (exec L.pg (CC L.pg L.Γ_a2 L.Δ_a2) (drawD L.pg L.Γ_a2 L.Δ_a2) .leaf (sub [true, true, true] (codeOf Tryz.f63)) (bld L.a2_J3_d.keep (mkL L.a2_J3_ss 0 vs) 0 84) (mkOs L.a2_J3_os 0 st) (cutK L.a2_J3_d K)) :=
  Imp.of (Eq.trans (b := exec L.pg (CC L.pg L.Γ_a2 L.Δ_a2) (drawD L.pg L.Γ_a2 L.Δ_a2) .leaf (sub [true, true, true] (codeOf Tryz.f63)) (bld L.a2_J3_d.keep [.cl 0 0] 0 84) [.cells [.xi (cI st 0 0), .x (.string (gS ((oC (gD st 0)).getD 1 .any))), .x (.string (gS ((oC (gD st 0)).getD 2 .any))), .ro .str (gR .str ((oC (gD st 0)).getD 3 .any)), .ro L.T9 (gR L.T9 ((oC (gD st 0)).getD 4 .any))]] (cutK L.a2_J3_d K)) (by kernel_rfl) (Eq.symm (L.a2_J3_eq (cI st 0 0) (gS ((oC (gD st 0)).getD 1 .any)) (gS ((oC (gD st 0)).getD 2 .any)) (gR .str ((oC (gD st 0)).getD 3 .any)) (gR L.T9 ((oC (gD st 0)).getD 4 .any)) K))) fun h => (L.a2_J3.out h)
def L.a2_J4_B (edit1 : Bool) (rename1 : Bool) (v35 : Bool) (c8 : L.yf) (c9 : L.T10) (Kn : Prop) (Kr : Int → Prop) : Prop :=
  (bif v35 then Kr 5 else (bif (bif (decide ((c8.length : Int) > 0)) then (bif edit1 then true else rename1) else false) then Kr 5 else (bif (!(edit1 == (decide ((c9.length : Int) > 0)))) then Kr 5 else Kn)))
structure L.a2_J4 (edit1 : Bool) (rename1 : Bool) (v35 : Bool) (c8 : L.yf) (c9 : L.T10) (Kn : Prop) (Kr : Int → Prop) : Prop where
  out : L.a2_J4_B edit1 rename1 v35 c8 c9 Kn Kr
def L.a2_J4_d : CutD := { base := 1, vecs := [], flds := [], keep := [1, 3, 4, 35], out := [1], rets := [2], ovecs := [], oflds := [], rv := [], rbase := 1 }
def L.a2_J4_ss : List Sh := [.cl 0 0, .bool, .bool, .bool]
def L.a2_J4_os : List OSh := [.cells [.int .i64, .str, .str, .ro .str, .ro L.T9]]
def L.a2_J4_G (vs : List V) (st : List Ob) (K : Ex → St) : Prop := L.a2_J4 (gB (gA vs 1)) (gB (gA vs 2)) (gB (gA vs 3)) (gR .str ((oC (gD st 0)).getD 3 .any)) (gR L.T9 ((oC (gD st 0)).getD 4 .any)) (K .normal (bld [1] [.cl 0 0] 0 84) [.cells [.xi (cI st 0 0), .x (.string (gS ((oC (gD st 0)).getD 1 .any))), .x (.string (gS ((oC (gD st 0)).getD 2 .any))), .ro .str (gR .str ((oC (gD st 0)).getD 3 .any)), .ro L.T9 (gR L.T9 ((oC (gD st 0)).getD 4 .any))]]) (fun q0_ => K .ret (bld [2] [.xi q0_] 0 84) [.cells [.xi (cI st 0 0), .x (.string (gS ((oC (gD st 0)).getD 1 .any))), .x (.string (gS ((oC (gD st 0)).getD 2 .any))), .ro .str (gR .str ((oC (gD st 0)).getD 3 .any)), .ro L.T9 (gR L.T9 ((oC (gD st 0)).getD 4 .any))]])
def L.a2_J4_F (vs : List V) (st : List Ob) (K : Ex → St) : Prop := fitF L.a2_J4_ss L.a2_J4_os vs st (L.a2_J4_G vs st K)
theorem L.a2_J4_eq (edit1 : Bool) (rename1 : Bool) (v35 : Bool) (c5 : Int) (c6 : ByteArray) (c7 : ByteArray) (c8 : L.yf) (c9 : L.T10) (K : Ex → St) : L.a2_J4_B edit1 rename1 v35 c8 c9 (K .normal (bld [1] [.cl 0 0] 0 84) [.cells [.xi c5, .x (.string c6), .x (.string c7), .ro .str c8, .ro L.T9 c9]]) (fun q0_ => K .ret (bld [2] [.xi q0_] 0 84) [.cells [.xi c5, .x (.string c6), .x (.string c7), .ro .str c8, .ro L.T9 c9]]) = exec L.pg (CC L.pg L.Γ_a2 L.Δ_a2) (drawD L.pg L.Γ_a2 L.Δ_a2) .leaf (sub [true, true, false, false, true, true, true, true, true] (codeOf Tryz.f63)) (bld L.a2_J4_d.keep [.cl 0 0, .x (.bool edit1), .x (.bool rename1), .x (.bool v35)] 0 84) [.cells [.xi c5, .x (.string c6), .x (.string c7), .ro .str c8, .ro L.T9 c9]] (cutK L.a2_J4_d K) := by
  kernel_rfl
theorem L.a2_J4_ok (vs : List V) (st : List Ob) (K : Ex → St) : Imp (L.a2_J4_G vs st K) (exec L.pg (CC L.pg L.Γ_a2 L.Δ_a2) (drawD L.pg L.Γ_a2 L.Δ_a2) .leaf (sub [true, true, false, false, true, true, true, true, true] (codeOf Tryz.f63)) (bld L.a2_J4_d.keep (mkL L.a2_J4_ss 0 vs) 0 84) (mkOs L.a2_J4_os 0 st) (cutK L.a2_J4_d K)) :=
  Imp.of (Eq.trans (b := exec L.pg (CC L.pg L.Γ_a2 L.Δ_a2) (drawD L.pg L.Γ_a2 L.Δ_a2) .leaf (sub [true, true, false, false, true, true, true, true, true] (codeOf Tryz.f63)) (bld L.a2_J4_d.keep [.cl 0 0, .x (.bool (gB (gA vs 1))), .x (.bool (gB (gA vs 2))), .x (.bool (gB (gA vs 3)))] 0 84) [.cells [.xi (cI st 0 0), .x (.string (gS ((oC (gD st 0)).getD 1 .any))), .x (.string (gS ((oC (gD st 0)).getD 2 .any))), .ro .str (gR .str ((oC (gD st 0)).getD 3 .any)), .ro L.T9 (gR L.T9 ((oC (gD st 0)).getD 4 .any))]] (cutK L.a2_J4_d K)) (by kernel_rfl) (Eq.symm (L.a2_J4_eq (gB (gA vs 1)) (gB (gA vs 2)) (gB (gA vs 3)) (cI st 0 0) (gS ((oC (gD st 0)).getD 1 .any)) (gS ((oC (gD st 0)).getD 2 .any)) (gR .str ((oC (gD st 0)).getD 3 .any)) (gR L.T9 ((oC (gD st 0)).getD 4 .any)) K))) fun h => (L.a2_J4.out h)
def L.a2_J5_B (edit : Bool) (rename : Bool) (v21 : Bool) (c1 : ByteArray) (c2 : ByteArray) (c3 : L.yf) (c4 : L.T10) (Kn : Prop) (Kr : Int → Prop) : Prop :=
  (bif v21 then Kr 12 else (bif (bif (!rename) then (!(c2.toList == L.str2.toList)) else false) then L.a2_J4 edit rename true c3 c4 (Kn) Kr else (bif rename then L.f7 c1 c2 (fun r1 => L.a2_J4 edit rename (bif false then true else (bif true then r1 else false)) c3 c4 (Kn) Kr) else L.a2_J4 edit rename (bif false then true else false) c3 c4 (Kn) Kr)))
structure L.a2_J5 (edit : Bool) (rename : Bool) (v21 : Bool) (c1 : ByteArray) (c2 : ByteArray) (c3 : L.yf) (c4 : L.T10) (Kn : Prop) (Kr : Int → Prop) : Prop where
  out : L.a2_J5_B edit rename v21 c1 c2 c3 c4 Kn Kr
def L.a2_J5_d : CutD := { base := 1, vecs := [], flds := [], keep := [1, 3, 4, 21], out := [1], rets := [2], ovecs := [], oflds := [], rv := [], rbase := 0 }
def L.a2_J5_ss : List Sh := [.cl 0 0, .bool, .bool, .bool]
def L.a2_J5_os : List OSh := [.cells [.int .i64, .str, .str, .ro .str, .ro L.T9]]
def L.a2_J5_G (vs : List V) (st : List Ob) (K : Ex → St) : Prop := L.a2_J5 (gB (gA vs 1)) (gB (gA vs 2)) (gB (gA vs 3)) (gS ((oC (gD st 0)).getD 1 .any)) (gS ((oC (gD st 0)).getD 2 .any)) (gR .str ((oC (gD st 0)).getD 3 .any)) (gR L.T9 ((oC (gD st 0)).getD 4 .any)) (K .normal (bld [1] [.cl 0 0] 0 84) [.cells [.xi (cI st 0 0), .x (.string (gS ((oC (gD st 0)).getD 1 .any))), .x (.string (gS ((oC (gD st 0)).getD 2 .any))), .ro .str (gR .str ((oC (gD st 0)).getD 3 .any)), .ro L.T9 (gR L.T9 ((oC (gD st 0)).getD 4 .any))]]) (fun q0_ => K .ret (bld [2] [.xi q0_] 0 84) [])
def L.a2_J5_F (vs : List V) (st : List Ob) (K : Ex → St) : Prop := fitF L.a2_J5_ss L.a2_J5_os vs st (L.a2_J5_G vs st K)
theorem L.a2_J5_eq (edit : Bool) (rename : Bool) (v21 : Bool) (c : Int) (c1 : ByteArray) (c2 : ByteArray) (c3 : L.yf) (c4 : L.T10) (K : Ex → St) : L.a2_J5_B edit rename v21 c1 c2 c3 c4 (K .normal (bld [1] [.cl 0 0] 0 84) [.cells [.xi c, .x (.string c1), .x (.string c2), .ro .str c3, .ro L.T9 c4]]) (fun q0_ => K .ret (bld [2] [.xi q0_] 0 84) []) = exec L.pg (CC L.pg L.Γ_a2 L.Δ_a2) (drawD L.pg L.Γ_a2 L.Δ_a2) (.node .leaf (.cut .leaf L.a2_J4_d 84 L.a2_J4_F)) (sub [true, true, false, false, true, true, true] (codeOf Tryz.f63)) (bld L.a2_J5_d.keep [.cl 0 0, .x (.bool edit), .x (.bool rename), .x (.bool v21)] 0 84) [.cells [.xi c, .x (.string c1), .x (.string c2), .ro .str c3, .ro L.T9 c4]] (cutK L.a2_J5_d K) := by
  kernel_rfl
theorem L.a2_J5_ok (vs : List V) (st : List Ob) (K : Ex → St) : Imp (L.a2_J5_G vs st K) (exec L.pg (CC L.pg L.Γ_a2 L.Δ_a2) (drawD L.pg L.Γ_a2 L.Δ_a2) (.node .leaf (.cut .leaf L.a2_J4_d 84 L.a2_J4_F)) (sub [true, true, false, false, true, true, true] (codeOf Tryz.f63)) (bld L.a2_J5_d.keep (mkL L.a2_J5_ss 0 vs) 0 84) (mkOs L.a2_J5_os 0 st) (cutK L.a2_J5_d K)) :=
  Imp.of (Eq.trans (b := exec L.pg (CC L.pg L.Γ_a2 L.Δ_a2) (drawD L.pg L.Γ_a2 L.Δ_a2) (.node .leaf (.cut .leaf L.a2_J4_d 84 L.a2_J4_F)) (sub [true, true, false, false, true, true, true] (codeOf Tryz.f63)) (bld L.a2_J5_d.keep [.cl 0 0, .x (.bool (gB (gA vs 1))), .x (.bool (gB (gA vs 2))), .x (.bool (gB (gA vs 3)))] 0 84) [.cells [.xi (cI st 0 0), .x (.string (gS ((oC (gD st 0)).getD 1 .any))), .x (.string (gS ((oC (gD st 0)).getD 2 .any))), .ro .str (gR .str ((oC (gD st 0)).getD 3 .any)), .ro L.T9 (gR L.T9 ((oC (gD st 0)).getD 4 .any))]] (cutK L.a2_J5_d K)) (by kernel_rfl) (Eq.symm (L.a2_J5_eq (gB (gA vs 1)) (gB (gA vs 2)) (gB (gA vs 3)) (cI st 0 0) (gS ((oC (gD st 0)).getD 1 .any)) (gS ((oC (gD st 0)).getD 2 .any)) (gR .str ((oC (gD st 0)).getD 3 .any)) (gR L.T9 ((oC (gD st 0)).getD 4 .any)) K))) fun h => (L.a2_J5.out h)
def L.a2_B (c_Kind : Int) (c_Path : ByteArray) (c_To : ByteArray) (c_Lines : L.yf) (c_Patch_Hunks : L.T10) (K : Int → Prop) : Prop :=
  (bif (bif (decide (c_Kind < 1)) then true else (decide (c_Kind > 4))) then K 4 else L.i0 c_Path (fun r => (bif (!r) then L.a2_J5 (c_Kind == 4) (c_Kind == 3) true c_Path c_To c_Lines c_Patch_Hunks (L.a2_J3 c_Lines c_Patch_Hunks K) K else (bif (c_Kind == 3) then L.i0 c_To (fun r1 => L.a2_J5 (c_Kind == 4) (c_Kind == 3) (bif false then true else (bif true then (!r1) else false)) c_Path c_To c_Lines c_Patch_Hunks (L.a2_J3 c_Lines c_Patch_Hunks K) K) else L.a2_J5 (c_Kind == 4) (c_Kind == 3) (bif false then true else false) c_Path c_To c_Lines c_Patch_Hunks (L.a2_J3 c_Lines c_Patch_Hunks K) K))))
structure L.a2 (c_Kind : Int) (c_Path : ByteArray) (c_To : ByteArray) (c_Lines : L.yf) (c_Patch_Hunks : L.T10) (K : Int → Prop) : Prop where
  out : L.a2_B c_Kind c_Path c_To c_Lines c_Patch_Hunks K
def L.a2_ss : List Sh := [.agg [.int .i64, .str, .str, .ro .str, .ro L.T9]]
def L.a2_G (vs : List V) (K : V → List Ob → Prop) : Prop := L.a2 (gI ((gC (gA vs 0)).getD 0 .any)) (gS ((gC (gA vs 0)).getD 1 .any)) (gS ((gC (gA vs 0)).getD 2 .any)) (gR .str ((gC (gA vs 0)).getD 3 .any)) (gR L.T9 ((gC (gA vs 0)).getD 4 .any)) (fun r0 => K (.xi r0) [])
def L.a2_S : SemF := fun args K => argF L.a2_ss args fun a => L.a2_G a K
theorem L.a2_eq (c_Kind : Int) (c_Path : ByteArray) (c_To : ByteArray) (c_Lines : L.yf) (c_Patch_Hunks : L.T10) (K : V → List Ob → Prop) : run L.pg L.Γ_a2 L.Δ_a2 (.node .leaf (.node .leaf (.cut (.node .leaf (.node .leaf (.cut .leaf L.a2_J5_d 84 L.a2_J5_F))) L.a2_J3_d 84 L.a2_J3_F))) .any Tryz.f63 [.agg [.xi c_Kind, .x (.string c_Path), .x (.string c_To), .ro .str c_Lines, .ro L.T9 c_Patch_Hunks]] K = L.a2_B c_Kind c_Path c_To c_Lines c_Patch_Hunks (fun r0 => K (.xi r0) []) := by
  kernel_rfl
theorem L.a2_imp (vs : List V) (K : V → List Ob → Prop) : Imp (L.a2_G vs K) (run L.pg L.Γ_a2 L.Δ_a2 (.node .leaf (.node .leaf (.cut (.node .leaf (.node .leaf (.cut .leaf L.a2_J5_d 84 L.a2_J5_F))) L.a2_J3_d 84 L.a2_J3_F))) .any Tryz.f63 (mkL L.a2_ss 0 vs) K) :=
  Imp.of (Eq.trans (b := run L.pg L.Γ_a2 L.Δ_a2 (.node .leaf (.node .leaf (.cut (.node .leaf (.node .leaf (.cut .leaf L.a2_J5_d 84 L.a2_J5_F))) L.a2_J3_d 84 L.a2_J3_F))) .any Tryz.f63 [.agg [.xi (gI ((gC (gA vs 0)).getD 0 .any)), .x (.string (gS ((gC (gA vs 0)).getD 1 .any))), .x (.string (gS ((gC (gA vs 0)).getD 2 .any))), .ro .str (gR .str ((gC (gA vs 0)).getD 3 .any)), .ro L.T9 (gR L.T9 ((gC (gA vs 0)).getD 4 .any))]] K) (by kernel_rfl) (L.a2_eq (gI ((gC (gA vs 0)).getD 0 .any)) (gS ((gC (gA vs 0)).getD 1 .any)) (gS ((gC (gA vs 0)).getD 2 .any)) (gR .str ((gC (gA vs 0)).getD 3 .any)) (gR L.T9 ((gC (gA vs 0)).getD 4 .any)) K)) fun h => (L.a2.out h)
theorem L.a2_ok : SoundFn L.pg 63 L.a2_S :=
  fn_ok (sem := run L.pg L.Γ_a2 L.Δ_a2 (.node .leaf (.node .leaf (.cut (.node .leaf (.node .leaf (.cut .leaf L.a2_J5_d 84 L.a2_J5_F))) L.a2_J3_d 84 L.a2_J3_F))) .any Tryz.f63) (ss := L.a2_ss) (G := L.a2_G) (run_ok L.Γ_a2_ok L.Δ_a2_ok Tryz.func63 (ann := (.node .leaf (.node .leaf (.cut (.node .leaf (.node .leaf (.cut .leaf L.a2_J5_d 84 L.a2_J5_F))) L.a2_J3_d 84 L.a2_J3_F)))) ⟨(annOk_leaf _), ⟨(annOk_leaf _), (cut_ok (ay := .leaf) (ss := L.a2_J3_ss) (os := L.a2_J3_os) (G := L.a2_J3_G) rfl ⟨(annOk_leaf _), ⟨(annOk_leaf _), (cut_ok (ay := (.node .leaf (.cut .leaf L.a2_J4_d 84 L.a2_J4_F))) (ss := L.a2_J5_ss) (os := L.a2_J5_os) (G := L.a2_J5_G) rfl (annOk_leaf _) (Nat.le_of_ble_eq_true rfl) (Nat.le_of_ble_eq_true rfl) ⟨(annOk_leaf _), (cut_ok (ay := .leaf) (ss := L.a2_J4_ss) (os := L.a2_J4_os) (G := L.a2_J4_G) rfl (annOk_leaf _) (Nat.le_of_ble_eq_true rfl) (Nat.le_of_ble_eq_true rfl) (annOk_leaf _) L.a2_J4_ok)⟩ L.a2_J5_ok)⟩⟩ (Nat.le_of_ble_eq_true rfl) (Nat.le_of_ble_eq_true rfl) (annOk_leaf _) L.a2_J3_ok)⟩⟩) L.a2_imp
def L.Γ_c3 : Ctx := ctxC L.Γ_a2 63 L.a2_S
theorem L.Γ_c3_ok : SoundG L.pg L.Γ_c3 := ctxC_ok L.Γ_a2_ok L.a2_ok
def L.Δ_c3 : CtxO := L.Δ_a2
theorem L.Δ_c3_ok : SoundGO L.pg L.Δ_c3 := L.Δ_a2_ok
def L.c3_L1_b (v12 : L.T3) (v13 : Int) (v14 : Int) (self : Int → Prop) (Kx0 : Prop) (Kr : Int → Int → Prop) : Prop :=
  (bif (decide (v14 < v13)) then (inB v14 v12.length) ∧ L.a2 ((v12.getD v14.toNat (0, (ByteArray.empty, (ByteArray.empty, ([], []))))).1) ((v12.getD v14.toNat (0, (ByteArray.empty, (ByteArray.empty, ([], []))))).2.1) ((v12.getD v14.toNat (0, (ByteArray.empty, (ByteArray.empty, ([], []))))).2.2.1) ((v12.getD v14.toNat (0, (ByteArray.empty, (ByteArray.empty, ([], []))))).2.2.2.1) ((v12.getD v14.toNat (0, (ByteArray.empty, (ByteArray.empty, ([], []))))).2.2.2.2) (fun r => (bif (r != 0) then Kr r v14 else self (i64 (v14 + 1)))) else Kx0)
def L.c3_L1_R (v12 : L.T3) (v13 : Int) : Nat → Int → (Prop) → (Int → Int → Prop) → Prop
  | 0, _, _, _ => False
  | fu + 1, v14, Kx0, Kr => L.c3_L1_b v12 v13 v14 (fun v14 => L.c3_L1_R v12 v13 fu v14 Kx0 Kr) Kx0 Kr
structure L.c3_L1 (v12 : L.T3) (v13 : Int) (v14 : Int) (Kx0 : Prop) (Kr : Int → Int → Prop) : Prop where
  out : ∃ fu, L.c3_L1_R v12 v13 fu v14 Kx0 Kr
def L.c3_L1_d : LoopD := { base := 2, vecs := [], flds := [], keep := [2, 12, 13, 14], out := [2], rets := [2], rv := [], rbase := 0 }
def L.c3_L1_ss : List Sh := [.cl 1 0, .ro L.T1, .int .i64, .int .i64]
def L.c3_L1_os : List OSh := [.cells [.ro L.T1], .cells [.int .i64, .int .i64]]
def L.c3_L1_G (vs : List V) (st : List Ob) (K : Ex → St) : Prop := L.c3_L1 (gR L.T1 (gA vs 1)) (gI (gA vs 2)) (gI (gA vs 3)) (K (.exit 0) (bld [2] [.cl 1 0] 0 28) [.cells [.ro L.T1 (gR L.T1 ((oC (gD st 0)).getD 0 .any))], .cells [.xi (cI st 1 0), .xi (cI st 1 1)]]) (fun q0_ q1_ => K .ret (bld [2] [.cl 0 0] 0 28) [.cells [.xi q0_, .xi q1_]])
def L.c3_L1_F (vs : List V) (st : List Ob) (K : Ex → St) : Prop := fitF L.c3_L1_ss L.c3_L1_os vs st (L.c3_L1_G vs st K)
theorem L.c3_L1_eq (v12 : L.T3) (v13 : Int) (m0 : L.T3) (m1 : Int) (m11 : Int) (K : Ex → St) : ∀ (fu : Nat) (v14 : Int), L.c3_L1_R v12 v13 fu v14 (K (.exit 0) (bld [2] [.cl 1 0] 0 28) [.cells [.ro L.T1 m0], .cells [.xi m1, .xi m11]]) (fun q0_ q1_ => K .ret (bld [2] [.cl 0 0] 0 28) [.cells [.xi q0_, .xi q1_]]) = iterL (stepL (exec L.pg (CC L.pg L.Γ_c3 L.Δ_c3) (drawD L.pg L.Γ_c3 L.Δ_c3) .leaf (sub [true, true, false, true, false, false] (codeOf Tryz.f56))) 2 L.c3_L1_d K) fu (bld L.c3_L1_d.keep [.cl 1 0, .ro L.T1 v12, .xi v13, .xi v14] 0 28) [.cells [.ro L.T1 m0], .cells [.xi m1, .xi m11]] := by
  intro fu
  induction fu with
  | zero => intros; rfl
  | succ fu ih =>
    intro v14
    have e : (fun v14 => L.c3_L1_R v12 v13 fu v14 (K (.exit 0) (bld [2] [.cl 1 0] 0 28) [.cells [.ro L.T1 m0], .cells [.xi m1, .xi m11]]) (fun q0_ q1_ => K .ret (bld [2] [.cl 0 0] 0 28) [.cells [.xi q0_, .xi q1_]])) = fun v14 => iterL (stepL (exec L.pg (CC L.pg L.Γ_c3 L.Δ_c3) (drawD L.pg L.Γ_c3 L.Δ_c3) .leaf (sub [true, true, false, true, false, false] (codeOf Tryz.f56))) 2 L.c3_L1_d K) fu (bld L.c3_L1_d.keep [.cl 1 0, .ro L.T1 v12, .xi v13, .xi v14] 0 28) [.cells [.ro L.T1 m0], .cells [.xi m1, .xi m11]] := by
      funext v14; exact ih v14
    show L.c3_L1_b v12 v13 v14 (fun v14 => L.c3_L1_R v12 v13 fu v14 (K (.exit 0) (bld [2] [.cl 1 0] 0 28) [.cells [.ro L.T1 m0], .cells [.xi m1, .xi m11]]) (fun q0_ q1_ => K .ret (bld [2] [.cl 0 0] 0 28) [.cells [.xi q0_, .xi q1_]])) (K (.exit 0) (bld [2] [.cl 1 0] 0 28) [.cells [.ro L.T1 m0], .cells [.xi m1, .xi m11]]) (fun q0_ q1_ => K .ret (bld [2] [.cl 0 0] 0 28) [.cells [.xi q0_, .xi q1_]]) = _
    rw [e]
    kernel_rfl
theorem L.c3_L1_imp (vs : List V) (st : List Ob) (K : Ex → St) (h : L.c3_L1_G vs st K) : ∃ fu, iterL (stepL (exec L.pg (CC L.pg L.Γ_c3 L.Δ_c3) (drawD L.pg L.Γ_c3 L.Δ_c3) .leaf (sub [true, true, false, true, false, false] (codeOf Tryz.f56))) 2 L.c3_L1_d K) fu (bld L.c3_L1_d.keep (mkL L.c3_L1_ss 0 vs) 0 28) (mkOs L.c3_L1_os 0 st) :=
  exMap (fun fu h => @Eq.mp _ _ (Eq.trans (L.c3_L1_eq (gR L.T1 (gA vs 1)) (gI (gA vs 2)) (gR L.T1 ((oC (gD st 0)).getD 0 .any)) (cI st 1 0) (cI st 1 1) K fu (gI (gA vs 3))) (by kernel_rfl)) h) (L.c3_L1.out h)
theorem L.c3_L1_ok : AnnOk L.pg (CC L.pg L.Γ_c3 L.Δ_c3) (drawD L.pg L.Γ_c3 L.Δ_c3) 0 (.lift L.c3_L1_d 28 L.c3_L1_F) (.loop (sub [true, true, false, true, false, false] (codeOf Tryz.f56))) :=
  lift_ok (an := .leaf) (ss := L.c3_L1_ss) (os := L.c3_L1_os) (G := L.c3_L1_G) rfl (Nat.le_of_ble_eq_true rfl) (annOk_leaf _) (L.c3_L1_imp)
def L.c3_B (p_Changes : L.T3) (K : Int → Int → Prop) : Prop :=
  (bif (decide ((p_Changes.length : Int) > 30)) then K 2 (-1) else L.c3_L1 p_Changes (p_Changes.length : Int) 0 (K 0 0) (fun m r => K m r))
structure L.c3 (p_Changes : L.T3) (K : Int → Int → Prop) : Prop where
  out : L.c3_B p_Changes K
def L.c3_ss : List Sh := [.agg [.ro L.T1]]
def L.c3_G (vs : List V) (K : V → List Ob → Prop) : Prop := L.c3 (gR L.T1 ((gC (gA vs 0)).getD 0 .any)) (fun r0 r1 => K (.agg [.xi r0, .xi r1]) [])
def L.c3_S : SemF := fun args K => argF L.c3_ss args fun a => L.c3_G a K
theorem L.c3_eq (p_Changes : L.T3) (K : V → List Ob → Prop) : run L.pg L.Γ_c3 L.Δ_c3 (.node .leaf (.node .leaf (.node (.node .leaf (.lift L.c3_L1_d 28 L.c3_L1_F)) .leaf))) .any Tryz.f56 [.agg [.ro L.T1 p_Changes]] K = L.c3_B p_Changes (fun r0 r1 => K (.agg [.xi r0, .xi r1]) []) := by
  kernel_rfl
theorem L.c3_imp (vs : List V) (K : V → List Ob → Prop) : Imp (L.c3_G vs K) (run L.pg L.Γ_c3 L.Δ_c3 (.node .leaf (.node .leaf (.node (.node .leaf (.lift L.c3_L1_d 28 L.c3_L1_F)) .leaf))) .any Tryz.f56 (mkL L.c3_ss 0 vs) K) :=
  Imp.of (Eq.trans (b := run L.pg L.Γ_c3 L.Δ_c3 (.node .leaf (.node .leaf (.node (.node .leaf (.lift L.c3_L1_d 28 L.c3_L1_F)) .leaf))) .any Tryz.f56 [.agg [.ro L.T1 (gR L.T1 ((gC (gA vs 0)).getD 0 .any))]] K) (by kernel_rfl) (L.c3_eq (gR L.T1 ((gC (gA vs 0)).getD 0 .any)) K)) fun h => (L.c3.out h)
theorem L.c3_ok : SoundFn L.pg 56 L.c3_S :=
  fn_ok (sem := run L.pg L.Γ_c3 L.Δ_c3 (.node .leaf (.node .leaf (.node (.node .leaf (.lift L.c3_L1_d 28 L.c3_L1_F)) .leaf))) .any Tryz.f56) (ss := L.c3_ss) (G := L.c3_G) (run_ok L.Γ_c3_ok L.Δ_c3_ok Tryz.func56 (ann := (.node .leaf (.node .leaf (.node (.node .leaf (.lift L.c3_L1_d 28 L.c3_L1_F)) .leaf)))) ⟨(annOk_leaf _), ⟨(annOk_leaf _), ⟨⟨(annOk_leaf _), L.c3_L1_ok⟩, (annOk_leaf _)⟩⟩⟩) L.c3_imp
def L.Γ_h5 : Ctx := ctxC L.Γ_c3 56 L.c3_S
theorem L.Γ_h5_ok : SoundG L.pg L.Γ_h5 := ctxC_ok L.Γ_c3_ok L.c3_ok
def L.Δ_h5 : CtxO := L.Δ_c3
theorem L.Δ_h5_ok : SoundGO L.pg L.Δ_h5 := L.Δ_c3_ok
def L.h5_B (p_Changes : L.T3) (index : Int) (K : Int → Int → Prop) : Prop :=
  L.c3 p_Changes (fun rCode rIndex => (bif (!((rCode == 0) && ((rIndex == 0) && true))) then K rCode index else K 0 0))
structure L.h5 (p_Changes : L.T3) (index : Int) (K : Int → Int → Prop) : Prop where
  out : L.h5_B p_Changes index K
def L.h5_ss : List Sh := [.agg [.ro L.T1], .int .i64]
def L.h5_G (vs : List V) (K : V → List Ob → Prop) : Prop := L.h5 (gR L.T1 ((gC (gA vs 0)).getD 0 .any)) (gI (gA vs 1)) (fun r0 r1 => K (.agg [.xi r0, .xi r1]) [])
def L.h5_S : SemF := fun args K => argF L.h5_ss args fun a => L.h5_G a K
theorem L.h5_eq (p_Changes : L.T3) (index : Int) (K : V → List Ob → Prop) : run L.pg L.Γ_h5 L.Δ_h5 .leaf .any Tryz.f43 [.agg [.ro L.T1 p_Changes], .xi index] K = L.h5_B p_Changes index (fun r0 r1 => K (.agg [.xi r0, .xi r1]) []) := by
  kernel_rfl
theorem L.h5_imp (vs : List V) (K : V → List Ob → Prop) : Imp (L.h5_G vs K) (run L.pg L.Γ_h5 L.Δ_h5 .leaf .any Tryz.f43 (mkL L.h5_ss 0 vs) K) :=
  Imp.of (Eq.trans (b := run L.pg L.Γ_h5 L.Δ_h5 .leaf .any Tryz.f43 [.agg [.ro L.T1 (gR L.T1 ((gC (gA vs 0)).getD 0 .any))], .xi (gI (gA vs 1))] K) (by kernel_rfl) (L.h5_eq (gR L.T1 ((gC (gA vs 0)).getD 0 .any)) (gI (gA vs 1)) K)) fun h => (L.h5.out h)
theorem L.h5_ok : SoundFn L.pg 43 L.h5_S :=
  fn_ok (sem := run L.pg L.Γ_h5 L.Δ_h5 .leaf .any Tryz.f43) (ss := L.h5_ss) (G := L.h5_G) (run_ok L.Γ_h5_ok L.Δ_h5_ok Tryz.func43 (ann := .leaf) (annOk_leaf _)) L.h5_imp
def L.Γ_f0 : Ctx := ctxC L.Γ_h5 43 L.h5_S
theorem L.Γ_f0_ok : SoundG L.pg L.Γ_f0 := ctxC_ok L.Γ_h5_ok L.h5_ok
def L.Δ_f0 : CtxO := L.Δ_h5
theorem L.Δ_f0_ok : SoundGO L.pg L.Δ_f0 := L.Δ_h5_ok
def L.f0_B (s : L.yf) (K : L.yf → Prop) : Prop :=
  (∀ b : Bool, (s.length ≠ 0 → b = false) → (bif b then K ([] : List ByteArray) else (fits (([] : List ByteArray).length + s.length)) ∧ K (([] : List ByteArray) ++ s)))
structure L.f0 (s : L.yf) (K : L.yf → Prop) : Prop where
  out : L.f0_B s K
def L.f0_ss : List Sh := [.ro .str]
def L.f0_G (vs : List V) (K : V → List Ob → Prop) : Prop := L.f0 (gR .str (gA vs 0)) (fun r0 => K (.vec 0) [.vec .str 0 r0])
def L.f0_S : SemF := fun args K => argF L.f0_ss args fun a => L.f0_G a K
theorem L.f0_eq (s : L.yf) (K : V → List Ob → Prop) : run L.pg L.Γ_f0 L.Δ_f0 .leaf (.sl .str) Tryz.f46 [.ro .str s] K = L.f0_B s (fun r0 => K (.vec 0) [.vec .str 0 r0]) := by
  kernel_rfl
theorem L.f0_imp (vs : List V) (K : V → List Ob → Prop) : Imp (L.f0_G vs K) (run L.pg L.Γ_f0 L.Δ_f0 .leaf (.sl .str) Tryz.f46 (mkL L.f0_ss 0 vs) K) :=
  Imp.of (Eq.trans (b := run L.pg L.Γ_f0 L.Δ_f0 .leaf (.sl .str) Tryz.f46 [.ro .str (gR .str (gA vs 0))] K) (by kernel_rfl) (L.f0_eq (gR .str (gA vs 0)) K)) fun h => (L.f0.out h)
theorem L.f0_ok : SoundFn L.pg 46 L.f0_S :=
  fn_ok (sem := run L.pg L.Γ_f0 L.Δ_f0 .leaf (.sl .str) Tryz.f46) (ss := L.f0_ss) (G := L.f0_G) (run_ok L.Γ_f0_ok L.Δ_f0_ok Tryz.func46 (ann := .leaf) (annOk_leaf _)) L.f0_imp
def L.Γ_a9 : Ctx := ctxC L.Γ_f0 46 L.f0_S
theorem L.Γ_a9_ok : SoundG L.pg L.Γ_a9 := ctxC_ok L.Γ_f0_ok L.f0_ok
def L.Δ_a9 : CtxO := L.Δ_f0
theorem L.Δ_a9_ok : SoundGO L.pg L.Δ_a9 := L.Δ_f0_ok
def L.a9_L1_b (v7 : L.T11) (v8 : Int) (v9 : Int) (m3 : L.T11) (self : Int → L.T11 → Prop) (Kx0 : L.T11 → Prop) : Prop :=
  (bif (decide (v9 < v8)) then (inB v9 v7.length) ∧ ((L.f0 ((v7.getD v9.toNat (ByteArray.empty, [])).2) (fun r => (fits (m3.length + ([((v7.getD v9.toNat (ByteArray.empty, [])).1, r)] : List (ByteArray × L.yf)).length)) ∧ self (i64 (v9 + 1)) (m3 ++ ([((v7.getD v9.toNat (ByteArray.empty, [])).1, r)] : List (ByteArray × L.yf))))) ∧ L.f0 ((v7.getD v9.toNat (ByteArray.empty, [])).2) (fun r1 => (fits (m3.length + ([((v7.getD v9.toNat (ByteArray.empty, [])).1, r1)] : List (ByteArray × L.yf)).length)) ∧ self (i64 (v9 + 1)) (m3 ++ ([((v7.getD v9.toNat (ByteArray.empty, [])).1, r1)] : List (ByteArray × L.yf))))) ∧ ((L.f0 ((v7.getD v9.toNat (ByteArray.empty, [])).2) (fun r2 => (fits (m3.length + ([((v7.getD v9.toNat (ByteArray.empty, [])).1, r2)] : List (ByteArray × L.yf)).length)) ∧ self (i64 (v9 + 1)) (m3 ++ ([((v7.getD v9.toNat (ByteArray.empty, [])).1, r2)] : List (ByteArray × L.yf))))) ∧ L.f0 ((v7.getD v9.toNat (ByteArray.empty, [])).2) (fun r3 => ((fits (m3.length + ([((v7.getD v9.toNat (ByteArray.empty, [])).1, r3)] : List (ByteArray × L.yf)).length)) ∧ self (i64 (v9 + 1)) (m3 ++ ([((v7.getD v9.toNat (ByteArray.empty, [])).1, r3)] : List (ByteArray × L.yf)))) ∧ (fits (m3.length + ([((v7.getD v9.toNat (ByteArray.empty, [])).1, r3)] : List (ByteArray × L.yf)).length)) ∧ self (i64 (v9 + 1)) (m3 ++ ([((v7.getD v9.toNat (ByteArray.empty, [])).1, r3)] : List (ByteArray × L.yf))))) ∧ L.f0 ((v7.getD v9.toNat (ByteArray.empty, [])).2) (fun r4 => ((fits (m3.length + ([((v7.getD v9.toNat (ByteArray.empty, [])).1, r4)] : List (ByteArray × L.yf)).length)) ∧ self (i64 (v9 + 1)) (m3 ++ ([((v7.getD v9.toNat (ByteArray.empty, [])).1, r4)] : List (ByteArray × L.yf)))) ∧ ((fits (m3.length + ([((v7.getD v9.toNat (ByteArray.empty, [])).1, r4)] : List (ByteArray × L.yf)).length)) ∧ self (i64 (v9 + 1)) (m3 ++ ([((v7.getD v9.toNat (ByteArray.empty, [])).1, r4)] : List (ByteArray × L.yf)))) ∧ (fits (m3.length + ([((v7.getD v9.toNat (ByteArray.empty, [])).1, r4)] : List (ByteArray × L.yf)).length)) ∧ self (i64 (v9 + 1)) (m3 ++ ([((v7.getD v9.toNat (ByteArray.empty, [])).1, r4)] : List (ByteArray × L.yf)))) else Kx0 m3)
def L.a9_L1_R (v7 : L.T11) (v8 : Int) : Nat → Int → L.T11 → (L.T11 → Prop) → Prop
  | 0, _, _, _ => False
  | fu + 1, v9, m3, Kx0 => L.a9_L1_b v7 v8 v9 m3 (fun v9 m3 => L.a9_L1_R v7 v8 fu v9 m3 Kx0) Kx0
structure L.a9_L1 (v7 : L.T11) (v8 : Int) (v9 : Int) (m3 : L.T11) (Kx0 : L.T11 → Prop) : Prop where
  out : ∃ fu, L.a9_L1_R v7 v8 fu v9 m3 Kx0
def L.a9_L1_d : LoopD := { base := 3, vecs := [], flds := [(2, 0, .sl L.yc)], keep := [2, 3, 7, 8, 9], out := [2, 3], rets := [2], rv := [], rbase := 0 }
def L.a9_L1_ss : List Sh := [.cl 1 0, .cl 2 0, .ro L.yc, .int .i64, .int .i64]
def L.a9_L1_os : List OSh := [.cells [.ro L.yc], .cells [.nil], .cells [.vec 3], .vec L.yc true]
def L.a9_L1_G (vs : List V) (st : List Ob) (K : Ex → St) : Prop := L.a9_L1 (gR L.yc (gA vs 2)) (gI (gA vs 3)) (gI (gA vs 4)) (oX L.yc (gD st 3)) (fun q0_ => K (.exit 0) (bld [2, 3] [.cl 1 0, .cl 2 0] 0 26) [.cells [.ro L.yc (gR L.yc ((oC (gD st 0)).getD 0 .any))], .cells [.x (.slice none 0 0)], .cells [.vec 3], .vec L.yc 0 q0_])
def L.a9_L1_F (vs : List V) (st : List Ob) (K : Ex → St) : Prop := fitF L.a9_L1_ss L.a9_L1_os vs st (L.a9_L1_G vs st K)
theorem L.a9_L1_eq (v7 : L.T11) (v8 : Int) (m0 : L.T11) (K : Ex → St) : ∀ (fu : Nat) (v9 : Int) (m3 : L.T11), L.a9_L1_R v7 v8 fu v9 m3 (fun q0_ => K (.exit 0) (bld [2, 3] [.cl 1 0, .cl 2 0] 0 26) [.cells [.ro L.yc m0], .cells [.x (.slice none 0 0)], .cells [.vec 3], .vec L.yc 0 q0_]) = iterL (stepL (exec L.pg (CC L.pg L.Γ_a9 L.Δ_a9) (drawD L.pg L.Γ_a9 L.Δ_a9) .leaf (sub [true, true, false, true, false, false] (codeOf Tryz.f27))) 3 L.a9_L1_d K) fu (bld L.a9_L1_d.keep [.cl 1 0, .cl 2 0, .ro L.yc v7, .xi v8, .xi v9] 0 26) [.cells [.ro L.yc m0], .cells [.x (.slice none 0 0)], .cells [.vec 3], .vec L.yc 0 m3] := by
  intro fu
  induction fu with
  | zero => intros; rfl
  | succ fu ih =>
    intro v9 m3
    have e : (fun v9 m3 => L.a9_L1_R v7 v8 fu v9 m3 (fun q0_ => K (.exit 0) (bld [2, 3] [.cl 1 0, .cl 2 0] 0 26) [.cells [.ro L.yc m0], .cells [.x (.slice none 0 0)], .cells [.vec 3], .vec L.yc 0 q0_])) = fun v9 m3 => iterL (stepL (exec L.pg (CC L.pg L.Γ_a9 L.Δ_a9) (drawD L.pg L.Γ_a9 L.Δ_a9) .leaf (sub [true, true, false, true, false, false] (codeOf Tryz.f27))) 3 L.a9_L1_d K) fu (bld L.a9_L1_d.keep [.cl 1 0, .cl 2 0, .ro L.yc v7, .xi v8, .xi v9] 0 26) [.cells [.ro L.yc m0], .cells [.x (.slice none 0 0)], .cells [.vec 3], .vec L.yc 0 m3] := by
      funext v9 m3; exact ih v9 m3
    show L.a9_L1_b v7 v8 v9 m3 (fun v9 m3 => L.a9_L1_R v7 v8 fu v9 m3 (fun q0_ => K (.exit 0) (bld [2, 3] [.cl 1 0, .cl 2 0] 0 26) [.cells [.ro L.yc m0], .cells [.x (.slice none 0 0)], .cells [.vec 3], .vec L.yc 0 q0_])) (fun q0_ => K (.exit 0) (bld [2, 3] [.cl 1 0, .cl 2 0] 0 26) [.cells [.ro L.yc m0], .cells [.x (.slice none 0 0)], .cells [.vec 3], .vec L.yc 0 q0_]) = _
    rw [e]
    kernel_rfl
theorem L.a9_L1_imp (vs : List V) (st : List Ob) (K : Ex → St) (h : L.a9_L1_G vs st K) : ∃ fu, iterL (stepL (exec L.pg (CC L.pg L.Γ_a9 L.Δ_a9) (drawD L.pg L.Γ_a9 L.Δ_a9) .leaf (sub [true, true, false, true, false, false] (codeOf Tryz.f27))) 3 L.a9_L1_d K) fu (bld L.a9_L1_d.keep (mkL L.a9_L1_ss 0 vs) 0 26) (mkOs L.a9_L1_os 0 st) :=
  exMap (fun fu h => @Eq.mp _ _ (Eq.trans (L.a9_L1_eq (gR L.yc (gA vs 2)) (gI (gA vs 3)) (gR L.yc ((oC (gD st 0)).getD 0 .any)) K fu (gI (gA vs 4)) (oX L.yc (gD st 3))) (by kernel_rfl)) h) (L.a9_L1.out h)
theorem L.a9_L1_ok : AnnOk L.pg (CC L.pg L.Γ_a9 L.Δ_a9) (drawD L.pg L.Γ_a9 L.Δ_a9) 0 (.lift L.a9_L1_d 26 L.a9_L1_F) (.loop (sub [true, true, false, true, false, false] (codeOf Tryz.f27))) :=
  lift_ok (an := .leaf) (ss := L.a9_L1_ss) (os := L.a9_L1_os) (G := L.a9_L1_G) rfl (Nat.le_of_ble_eq_true rfl) (annOk_leaf _) (L.a9_L1_imp)
def L.a9_B (t : L.T11) (K : L.T11 → Prop) : Prop :=
  L.a9_L1 t (t.length : Int) 0 ([] : List (ByteArray × L.yf)) (fun m => K m)
structure L.a9 (t : L.T11) (K : L.T11 → Prop) : Prop where
  out : L.a9_B t K
def L.a9_ss : List Sh := [.agg [.ro L.yc]]
def L.a9_os : List OSh := []
def L.a9_G (vs : List V) (st : List Ob) (K : V → List Ob → Prop) : Prop := L.a9 (gR L.yc ((gC (gA vs 0)).getD 0 .any)) (fun r0 => K (.agg [.vec 0]) [.vec L.yc 0 r0])
def L.a9_S : SemO := fun args st K => argO L.a9_ss L.a9_os args st fun a s => L.a9_G a s K
theorem L.a9_eq (t : L.T11) (K : V → List Ob → Prop) : runH L.pg L.Γ_a9 L.Δ_a9 (.node .leaf (.node .leaf (.node (.node .leaf (.lift L.a9_L1_d 26 L.a9_L1_F)) .leaf))) (.agg [(.sl L.yc)]) [] Tryz.f27 false 0 [.agg [.ro L.yc t]] [] K = L.a9_B t (fun r0 => K (.agg [.vec 0]) [.vec L.yc 0 r0]) := by
  kernel_rfl
theorem L.a9_imp (vs : List V) (st : List Ob) (K : V → List Ob → Prop) : Imp (L.a9_G vs st K) (runH L.pg L.Γ_a9 L.Δ_a9 (.node .leaf (.node .leaf (.node (.node .leaf (.lift L.a9_L1_d 26 L.a9_L1_F)) .leaf))) (.agg [(.sl L.yc)]) [] Tryz.f27 false 0 (mkL L.a9_ss 0 vs) (mkOs L.a9_os 0 st) K) :=
  Imp.of (Eq.trans (b := runH L.pg L.Γ_a9 L.Δ_a9 (.node .leaf (.node .leaf (.node (.node .leaf (.lift L.a9_L1_d 26 L.a9_L1_F)) .leaf))) (.agg [(.sl L.yc)]) [] Tryz.f27 false 0 [.agg [.ro L.yc (gR L.yc ((gC (gA vs 0)).getD 0 .any))]] [] K) (by kernel_rfl) (L.a9_eq (gR L.yc ((gC (gA vs 0)).getD 0 .any)) K)) fun h => (L.a9.out h)
theorem L.a9_ok : SoundO L.pg 27 L.a9_S :=
  fnO_ok (sem := runH L.pg L.Γ_a9 L.Δ_a9 (.node .leaf (.node .leaf (.node (.node .leaf (.lift L.a9_L1_d 26 L.a9_L1_F)) .leaf))) (.agg [(.sl L.yc)]) [] Tryz.f27 false 0) (ss := L.a9_ss) (os := L.a9_os) (G := L.a9_G) (runH_ok L.Γ_a9_ok L.Δ_a9_ok Tryz.func27 (ann := (.node .leaf (.node .leaf (.node (.node .leaf (.lift L.a9_L1_d 26 L.a9_L1_F)) .leaf)))) rfl ⟨(annOk_leaf _), ⟨(annOk_leaf _), ⟨⟨(annOk_leaf _), L.a9_L1_ok⟩, (annOk_leaf _)⟩⟩⟩) L.a9_imp
def L.Γ_b6 : Ctx := L.Γ_a9
theorem L.Γ_b6_ok : SoundG L.pg L.Γ_b6 := L.Γ_a9_ok
def L.Δ_b6 : CtxO := ctxE L.Δ_a9 27 [.agg [.ro L.yc]] L.a9_ss L.a9_os L.a9_G
theorem L.Δ_b6_ok : SoundGO L.pg L.Δ_b6 := ctxE_ok L.Δ_a9_ok L.a9_ok
def L.b6_L1_b (v23 : L.T2) (v24 : Int) (v25 : Int) (self : Int → Prop) (Kx0 : Prop) (Kr : Int → Int → Prop) : Prop :=
  (bif (decide (v25 < v24)) then (inB v25 v23.length) ∧ L.h5 (v23.getD v25.toNat []) v25 (fun rCode1 rIndex1 => (bif (!((rCode1 == 0) && ((rIndex1 == 0) && true))) then Kr rCode1 rIndex1 else self (i64 (v25 + 1)))) else Kx0)
def L.b6_L1_R (v23 : L.T2) (v24 : Int) : Nat → Int → (Prop) → (Int → Int → Prop) → Prop
  | 0, _, _, _ => False
  | fu + 1, v25, Kx0, Kr => L.b6_L1_b v23 v24 v25 (fun v25 => L.b6_L1_R v23 v24 fu v25 Kx0 Kr) Kx0 Kr
structure L.b6_L1 (v23 : L.T2) (v24 : Int) (v25 : Int) (Kx0 : Prop) (Kr : Int → Int → Prop) : Prop where
  out : ∃ fu, L.b6_L1_R v23 v24 fu v25 Kx0 Kr
def L.b6_L1_d : LoopD := { base := 3, vecs := [], flds := [], keep := [1, 2, 3, 7, 23, 24, 25], out := [1, 2, 3, 7], rets := [6, 7], rv := [], rbase := 0 }
def L.b6_L1_ss : List Sh := [.ro L.T0, .ro L.ye, .cl 0 0, .cl 1 0, .ro L.T0, .int .i64, .int .i64]
def L.b6_L1_os : List OSh := [.cells [.ro L.yc], .cells [.int .i64, .int .i64], .cells [.int .i64, .int .i64]]
def L.b6_L1_G (vs : List V) (st : List Ob) (K : Ex → St) : Prop := L.b6_L1 (gR L.T0 (gA vs 4)) (gI (gA vs 5)) (gI (gA vs 6)) (K (.exit 0) (bld [1, 2, 3, 7] [.ro L.T0 (gR L.T0 (gA vs 0)), .ro L.ye (gR L.ye (gA vs 1)), .cl 0 0, .cl 1 0] 0 58) [.cells [.ro L.yc (gR L.yc ((oC (gD st 0)).getD 0 .any))], .cells [.xi (cI st 1 0), .xi (cI st 1 1)], .cells [.xi (cI st 2 0), .xi (cI st 2 1)]]) (fun q0_ q1_ => K .ret (bld [6, 7] [.x (.pointer none), .cl 0 0] 0 58) [.cells [.xi q0_, .xi q1_]])
def L.b6_L1_F (vs : List V) (st : List Ob) (K : Ex → St) : Prop := fitF L.b6_L1_ss L.b6_L1_os vs st (L.b6_L1_G vs st K)
theorem L.b6_L1_eq (patches1 : L.T2) (culprits1 : L.yi) (v23 : L.T2) (v24 : Int) (base1 : L.T11) (m1 : Int) (m11 : Int) (m2 : Int) (m21 : Int) (K : Ex → St) : ∀ (fu : Nat) (v25 : Int), L.b6_L1_R v23 v24 fu v25 (K (.exit 0) (bld [1, 2, 3, 7] [.ro L.T0 patches1, .ro L.ye culprits1, .cl 0 0, .cl 1 0] 0 58) [.cells [.ro L.yc base1], .cells [.xi m1, .xi m11], .cells [.xi m2, .xi m21]]) (fun q0_ q1_ => K .ret (bld [6, 7] [.x (.pointer none), .cl 0 0] 0 58) [.cells [.xi q0_, .xi q1_]]) = iterL (stepL (exec L.pg (CC L.pg L.Γ_b6 L.Δ_b6) (drawD L.pg L.Γ_b6 L.Δ_b6) .leaf (sub [true, true, true, false, true, false, false] (codeOf Tryz.f25))) 3 L.b6_L1_d K) fu (bld L.b6_L1_d.keep [.ro L.T0 patches1, .ro L.ye culprits1, .cl 0 0, .cl 1 0, .ro L.T0 v23, .xi v24, .xi v25] 0 58) [.cells [.ro L.yc base1], .cells [.xi m1, .xi m11], .cells [.xi m2, .xi m21]] := by
  intro fu
  induction fu with
  | zero => intros; rfl
  | succ fu ih =>
    intro v25
    have e : (fun v25 => L.b6_L1_R v23 v24 fu v25 (K (.exit 0) (bld [1, 2, 3, 7] [.ro L.T0 patches1, .ro L.ye culprits1, .cl 0 0, .cl 1 0] 0 58) [.cells [.ro L.yc base1], .cells [.xi m1, .xi m11], .cells [.xi m2, .xi m21]]) (fun q0_ q1_ => K .ret (bld [6, 7] [.x (.pointer none), .cl 0 0] 0 58) [.cells [.xi q0_, .xi q1_]])) = fun v25 => iterL (stepL (exec L.pg (CC L.pg L.Γ_b6 L.Δ_b6) (drawD L.pg L.Γ_b6 L.Δ_b6) .leaf (sub [true, true, true, false, true, false, false] (codeOf Tryz.f25))) 3 L.b6_L1_d K) fu (bld L.b6_L1_d.keep [.ro L.T0 patches1, .ro L.ye culprits1, .cl 0 0, .cl 1 0, .ro L.T0 v23, .xi v24, .xi v25] 0 58) [.cells [.ro L.yc base1], .cells [.xi m1, .xi m11], .cells [.xi m2, .xi m21]] := by
      funext v25; exact ih v25
    show L.b6_L1_b v23 v24 v25 (fun v25 => L.b6_L1_R v23 v24 fu v25 (K (.exit 0) (bld [1, 2, 3, 7] [.ro L.T0 patches1, .ro L.ye culprits1, .cl 0 0, .cl 1 0] 0 58) [.cells [.ro L.yc base1], .cells [.xi m1, .xi m11], .cells [.xi m2, .xi m21]]) (fun q0_ q1_ => K .ret (bld [6, 7] [.x (.pointer none), .cl 0 0] 0 58) [.cells [.xi q0_, .xi q1_]])) (K (.exit 0) (bld [1, 2, 3, 7] [.ro L.T0 patches1, .ro L.ye culprits1, .cl 0 0, .cl 1 0] 0 58) [.cells [.ro L.yc base1], .cells [.xi m1, .xi m11], .cells [.xi m2, .xi m21]]) (fun q0_ q1_ => K .ret (bld [6, 7] [.x (.pointer none), .cl 0 0] 0 58) [.cells [.xi q0_, .xi q1_]]) = _
    rw [e]
    kernel_rfl
theorem L.b6_L1_imp (vs : List V) (st : List Ob) (K : Ex → St) (h : L.b6_L1_G vs st K) : ∃ fu, iterL (stepL (exec L.pg (CC L.pg L.Γ_b6 L.Δ_b6) (drawD L.pg L.Γ_b6 L.Δ_b6) .leaf (sub [true, true, true, false, true, false, false] (codeOf Tryz.f25))) 3 L.b6_L1_d K) fu (bld L.b6_L1_d.keep (mkL L.b6_L1_ss 0 vs) 0 58) (mkOs L.b6_L1_os 0 st) :=
  exMap (fun fu h => @Eq.mp _ _ (Eq.trans (L.b6_L1_eq (gR L.T0 (gA vs 0)) (gR L.ye (gA vs 1)) (gR L.T0 (gA vs 4)) (gI (gA vs 5)) (gR L.yc ((oC (gD st 0)).getD 0 .any)) (cI st 1 0) (cI st 1 1) (cI st 2 0) (cI st 2 1) K fu (gI (gA vs 6))) (by kernel_rfl)) h) (L.b6_L1.out h)
theorem L.b6_L1_ok : AnnOk L.pg (CC L.pg L.Γ_b6 L.Δ_b6) (drawD L.pg L.Γ_b6 L.Δ_b6) 0 (.lift L.b6_L1_d 58 L.b6_L1_F) (.loop (sub [true, true, true, false, true, false, false] (codeOf Tryz.f25))) :=
  lift_ok (an := .leaf) (ss := L.b6_L1_ss) (os := L.b6_L1_os) (G := L.b6_L1_G) rfl (Nat.le_of_ble_eq_true rfl) (annOk_leaf _) (L.b6_L1_imp)
def L.b6_B (base : L.T11) (patches : L.T2) (culprits : L.yi) (K : Int → Int → Prop) (K2_ : Int → Int → L.T2 → L.yi → Int → L.T11 → (List Int) → Prop) : Prop :=
  L.f9 base (-2) (fun rCode rIndex => (bif (!((rCode == 0) && ((rIndex == 0) && true))) then K rCode rIndex else (bif (decide ((patches.length : Int) > 12)) then K 2 (-1) else L.b6_L1 patches (patches.length : Int) 0 (L.a5 (patches.length : Int) culprits (fun rCode1 rIndex1 => (bif (!((rCode1 == 0) && ((rIndex1 == 0) && true))) then K rCode1 (-3) else (L.a9 base (fun r => (0 ≤ (patches.length : Int) ∧ (patches.length : Int) ≤ (patches.length : Int) ∧ (patches.length : Int) ≤ 1073741824) ∧ K2_ 0 0 patches culprits 0 r (List.replicate (patches.length : Int).toNat (0 : Int)))) ∧ (L.a9 base (fun r1 => (0 ≤ (patches.length : Int) ∧ (patches.length : Int) ≤ (patches.length : Int) ∧ (patches.length : Int) ≤ 1073741824) ∧ K2_ 0 0 patches culprits 0 r1 (List.replicate (patches.length : Int).toNat (0 : Int)))) ∧ (0 ≤ (patches.length : Int) ∧ (patches.length : Int) ≤ (patches.length : Int) ∧ (patches.length : Int) ≤ 1073741824) ∧ L.a9 base (fun r2 => K2_ 0 0 patches culprits 0 r2 (List.replicate (patches.length : Int).toNat (0 : Int)))))) (fun base1 r3 => K base1 r3))))
structure L.b6 (base : L.T11) (patches : L.T2) (culprits : L.yi) (K : Int → Int → Prop) (K2_ : Int → Int → L.T2 → L.yi → Int → L.T11 → (List Int) → Prop) : Prop where
  out : L.b6_B base patches culprits K K2_
def L.b6_ss : List Sh := [.agg [.ro L.yc], .ro L.T0, .ro L.ye]
def L.b6_os : List OSh := []
def L.b6_G (vs : List V) (st : List Ob) (K : V → List Ob → Prop) : Prop := L.b6 (gR L.yc ((gC (gA vs 0)).getD 0 .any)) (gR L.T0 (gA vs 1)) (gR L.ye (gA vs 2)) (fun r0 r1 => K (.tup [.x (.pointer none), .agg [.xi r0, .xi r1]]) []) (fun r0 r1 r2 r3 r4 r5 r6 => K (.tup [.cl 0 0, .agg [.xi r0, .xi r1]]) [.cells [.vec 1, .ro L.T0 r2, .ro L.ye r3, .x (.slice none 0 0), .vec 2, .xi r4], .vec L.yc 0 r5, .vec (.int .i64) 0 r6])
def L.b6_S : SemO := fun args st K => argO L.b6_ss L.b6_os args st fun a s => L.b6_G a s K
theorem L.b6_eq (base : L.T11) (patches : L.T2) (culprits : L.yi) (K : V → List Ob → Prop) : runH L.pg L.Γ_b6 L.Δ_b6 (.node .leaf (.node .leaf (.node .leaf (.node (.node .leaf (.lift L.b6_L1_d 58 L.b6_L1_F)) .leaf)))) (.tup [.any, (.agg [.any, .any])]) [] Tryz.f25 false 0 [.agg [.ro L.yc base], .ro L.T0 patches, .ro L.ye culprits] [] K = L.b6_B base patches culprits (fun r0 r1 => K (.tup [.x (.pointer none), .agg [.xi r0, .xi r1]]) []) (fun r0 r1 r2 r3 r4 r5 r6 => K (.tup [.cl 0 0, .agg [.xi r0, .xi r1]]) [.cells [.vec 1, .ro L.T0 r2, .ro L.ye r3, .x (.slice none 0 0), .vec 2, .xi r4], .vec L.yc 0 r5, .vec (.int .i64) 0 r6]) := by
  kernel_rfl
theorem L.b6_imp (vs : List V) (st : List Ob) (K : V → List Ob → Prop) : Imp (L.b6_G vs st K) (runH L.pg L.Γ_b6 L.Δ_b6 (.node .leaf (.node .leaf (.node .leaf (.node (.node .leaf (.lift L.b6_L1_d 58 L.b6_L1_F)) .leaf)))) (.tup [.any, (.agg [.any, .any])]) [] Tryz.f25 false 0 (mkL L.b6_ss 0 vs) (mkOs L.b6_os 0 st) K) :=
  Imp.of (Eq.trans (b := runH L.pg L.Γ_b6 L.Δ_b6 (.node .leaf (.node .leaf (.node .leaf (.node (.node .leaf (.lift L.b6_L1_d 58 L.b6_L1_F)) .leaf)))) (.tup [.any, (.agg [.any, .any])]) [] Tryz.f25 false 0 [.agg [.ro L.yc (gR L.yc ((gC (gA vs 0)).getD 0 .any))], .ro L.T0 (gR L.T0 (gA vs 1)), .ro L.ye (gR L.ye (gA vs 2))] [] K) (by kernel_rfl) (L.b6_eq (gR L.yc ((gC (gA vs 0)).getD 0 .any)) (gR L.T0 (gA vs 1)) (gR L.ye (gA vs 2)) K)) fun h => (L.b6.out h)
theorem L.b6_ok : SoundO L.pg 25 L.b6_S :=
  fnO_ok (sem := runH L.pg L.Γ_b6 L.Δ_b6 (.node .leaf (.node .leaf (.node .leaf (.node (.node .leaf (.lift L.b6_L1_d 58 L.b6_L1_F)) .leaf)))) (.tup [.any, (.agg [.any, .any])]) [] Tryz.f25 false 0) (ss := L.b6_ss) (os := L.b6_os) (G := L.b6_G) (runH_ok L.Γ_b6_ok L.Δ_b6_ok Tryz.func25 (ann := (.node .leaf (.node .leaf (.node .leaf (.node (.node .leaf (.lift L.b6_L1_d 58 L.b6_L1_F)) .leaf))))) rfl ⟨(annOk_leaf _), ⟨(annOk_leaf _), ⟨(annOk_leaf _), ⟨⟨(annOk_leaf _), L.b6_L1_ok⟩, (annOk_leaf _)⟩⟩⟩⟩) L.b6_imp
def L.Γ_i2 : Ctx := L.Γ_b6
theorem L.Γ_i2_ok : SoundG L.pg L.Γ_i2 := L.Γ_b6_ok
def L.Δ_i2 : CtxO := ctxE L.Δ_b6 25 [.any, .sl L.T0, .sl L.ye] L.b6_ss L.b6_os L.b6_G
theorem L.Δ_i2_ok : SoundGO L.pg L.Δ_i2 := ctxE_ok L.Δ_b6_ok L.b6_ok
def L.i2_B (a : ByteArray) (b : ByteArray) (K : Int → Prop) : Prop :=
  K (La.cmp_R a b)
structure L.i2 (a : ByteArray) (b : ByteArray) (K : Int → Prop) : Prop where
  out : L.i2_B a b K
def L.i2_ss : List Sh := [.str, .str]
def L.i2_G (vs : List V) (K : V → List Ob → Prop) : Prop := L.i2 (gS (gA vs 0)) (gS (gA vs 1)) (fun r0 => K (.xi r0) [])
def L.i2_S : SemF := fun args K => argF L.i2_ss args fun a => L.i2_G a K
theorem L.i2_ok : SoundFn L.pg 77 L.i2_S := SoundFn.of_imp La.cmp_ok fun args K h => argF_mono (fun a h => h.out) h
def L.Γ_h7 : Ctx := ctxC L.Γ_i2 77 L.i2_S
theorem L.Γ_h7_ok : SoundG L.pg L.Γ_h7 := ctxC_ok L.Γ_i2_ok L.i2_ok
def L.Δ_h7 : CtxO := L.Δ_i2
theorem L.Δ_h7_ok : SoundGO L.pg L.Δ_h7 := L.Δ_i2_ok
def L.h7_B (f_Path : ByteArray) (f_Lines : L.yf) (path : ByteArray) (K : Int → Prop) : Prop :=
  L.i2 f_Path path (fun r => K r)
structure L.h7 (f_Path : ByteArray) (f_Lines : L.yf) (path : ByteArray) (K : Int → Prop) : Prop where
  out : L.h7_B f_Path f_Lines path K
def L.h7_ss : List Sh := [.agg [.str, .ro .str], .str]
def L.h7_G (vs : List V) (K : V → List Ob → Prop) : Prop := L.h7 (gS ((gC (gA vs 0)).getD 0 .any)) (gR .str ((gC (gA vs 0)).getD 1 .any)) (gS (gA vs 1)) (fun r0 => K (.xi r0) [])
def L.h7_S : SemF := fun args K => argF L.h7_ss args fun a => L.h7_G a K
theorem L.h7_eq (f_Path : ByteArray) (f_Lines : L.yf) (path : ByteArray) (K : V → List Ob → Prop) : run L.pg L.Γ_h7 L.Δ_h7 .leaf .any Tryz.f76 [.agg [.x (.string f_Path), .ro .str f_Lines], .x (.string path)] K = L.h7_B f_Path f_Lines path (fun r0 => K (.xi r0) []) := by
  kernel_rfl
theorem L.h7_imp (vs : List V) (K : V → List Ob → Prop) : Imp (L.h7_G vs K) (run L.pg L.Γ_h7 L.Δ_h7 .leaf .any Tryz.f76 (mkL L.h7_ss 0 vs) K) :=
  Imp.of (Eq.trans (b := run L.pg L.Γ_h7 L.Δ_h7 .leaf .any Tryz.f76 [.agg [.x (.string (gS ((gC (gA vs 0)).getD 0 .any))), .ro .str (gR .str ((gC (gA vs 0)).getD 1 .any))], .x (.string (gS (gA vs 1)))] K) (by kernel_rfl) (L.h7_eq (gS ((gC (gA vs 0)).getD 0 .any)) (gR .str ((gC (gA vs 0)).getD 1 .any)) (gS (gA vs 1)) K)) fun h => (L.h7.out h)
theorem L.h7_ok : SoundFn L.pg 76 L.h7_S :=
  fn_ok (sem := run L.pg L.Γ_h7 L.Δ_h7 .leaf .any Tryz.f76) (ss := L.h7_ss) (G := L.h7_G) (run_ok L.Γ_h7_ok L.Δ_h7_ok Tryz.func76 (ann := .leaf) (annOk_leaf _)) L.h7_imp
def L.Γ_c9 : Ctx := ctxC L.Γ_h7 76 L.h7_S
theorem L.Γ_c9_ok : SoundG L.pg L.Γ_c9 := ctxC_ok L.Γ_h7_ok L.h7_ok
def L.Δ_c9 : CtxO := L.Δ_h7
theorem L.Δ_c9_ok : SoundGO L.pg L.Δ_c9 := L.Δ_h7_ok
def L.c9_L1_b (x1 : L.T11) (target1 : ByteArray) (i_ : Int) (j : Int) (self : Int → Int → Prop) (Kx0 : Int → Prop) : Prop :=
  (bif (decide (i_ < j)) then (0 ≤ (1 : Int)) ∧ (inB (i64 ((IntKind.wrap .u64 (i64 (i_ + j))).fdiv (2 ^ (min (1 : Int).toNat 64)))) x1.length) ∧ L.h7 ((x1.getD ((i64 ((IntKind.wrap .u64 (i64 (i_ + j))).fdiv (2 ^ (min (1 : Int).toNat 64)))).toNat) (ByteArray.empty, [])).1) ((x1.getD ((i64 ((IntKind.wrap .u64 (i64 (i_ + j))).fdiv (2 ^ (min (1 : Int).toNat 64)))).toNat) (ByteArray.empty, [])).2) target1 (fun r => (bif (decide (r < 0)) then self (i64 ((i64 ((IntKind.wrap .u64 (i64 (i_ + j))).fdiv (2 ^ (min (1 : Int).toNat 64)))) + 1)) j else self i_ (i64 ((IntKind.wrap .u64 (i64 (i_ + j))).fdiv (2 ^ (min (1 : Int).toNat 64)))))) else Kx0 i_)
def L.c9_L1_R (x1 : L.T11) (target1 : ByteArray) : Nat → Int → Int → (Int → Prop) → Prop
  | 0, _, _, _ => False
  | fu + 1, i_, j, Kx0 => L.c9_L1_b x1 target1 i_ j (fun i_ j => L.c9_L1_R x1 target1 fu i_ j Kx0) Kx0
structure L.c9_L1 (x1 : L.T11) (target1 : ByteArray) (i_ : Int) (j : Int) (Kx0 : Int → Prop) : Prop where
  out : ∃ fu, L.c9_L1_R x1 target1 fu i_ j Kx0
def L.c9_L1_d : LoopD := { base := 0, vecs := [], flds := [], keep := [0, 1, 2, 8, 9, 10], out := [0, 1, 2, 8, 9], rets := [6, 7], rv := [], rbase := 0 }
def L.c9_L1_ss : List Sh := [.ro L.yc, .str, .fn 76 [] [], .int .i64, .int .i64, .int .i64]
def L.c9_L1_os : List OSh := []
def L.c9_L1_G (vs : List V) (st : List Ob) (K : Ex → St) : Prop := L.c9_L1 (gR L.yc (gA vs 0)) (gS (gA vs 1)) (gI (gA vs 4)) (gI (gA vs 5)) (fun q0_ => K (.exit 0) (bld [0, 1, 2, 8, 9] [.ro L.yc (gR L.yc (gA vs 0)), .x (.string (gS (gA vs 1))), .fn (.func 76) [] [], .xi (gI (gA vs 3)), .xi q0_] 0 49) [])
def L.c9_L1_F (vs : List V) (st : List Ob) (K : Ex → St) : Prop := fitF L.c9_L1_ss L.c9_L1_os vs st (L.c9_L1_G vs st K)
theorem L.c9_L1_eq (x1 : L.T11) (target1 : ByteArray) (n : Int) (K : Ex → St) : ∀ (fu : Nat) (i_ : Int) (j : Int), L.c9_L1_R x1 target1 fu i_ j (fun q0_ => K (.exit 0) (bld [0, 1, 2, 8, 9] [.ro L.yc x1, .x (.string target1), .fn (.func 76) [] [], .xi n, .xi q0_] 0 49) []) = iterL (stepL (exec L.pg (CC L.pg L.Γ_c9 L.Δ_c9) (drawD L.pg L.Γ_c9 L.Δ_c9) .leaf (sub [true, true, true, false, false, false] (codeOf Tryz.f75))) 0 L.c9_L1_d K) fu (bld L.c9_L1_d.keep [.ro L.yc x1, .x (.string target1), .fn (.func 76) [] [], .xi n, .xi i_, .xi j] 0 49) [] := by
  intro fu
  induction fu with
  | zero => intros; rfl
  | succ fu ih =>
    intro i_ j
    have e : (fun i_ j => L.c9_L1_R x1 target1 fu i_ j (fun q0_ => K (.exit 0) (bld [0, 1, 2, 8, 9] [.ro L.yc x1, .x (.string target1), .fn (.func 76) [] [], .xi n, .xi q0_] 0 49) [])) = fun i_ j => iterL (stepL (exec L.pg (CC L.pg L.Γ_c9 L.Δ_c9) (drawD L.pg L.Γ_c9 L.Δ_c9) .leaf (sub [true, true, true, false, false, false] (codeOf Tryz.f75))) 0 L.c9_L1_d K) fu (bld L.c9_L1_d.keep [.ro L.yc x1, .x (.string target1), .fn (.func 76) [] [], .xi n, .xi i_, .xi j] 0 49) [] := by
      funext i_ j; exact ih i_ j
    show L.c9_L1_b x1 target1 i_ j (fun i_ j => L.c9_L1_R x1 target1 fu i_ j (fun q0_ => K (.exit 0) (bld [0, 1, 2, 8, 9] [.ro L.yc x1, .x (.string target1), .fn (.func 76) [] [], .xi n, .xi q0_] 0 49) [])) (fun q0_ => K (.exit 0) (bld [0, 1, 2, 8, 9] [.ro L.yc x1, .x (.string target1), .fn (.func 76) [] [], .xi n, .xi q0_] 0 49) []) = _
    rw [e]
    kernel_rfl
theorem L.c9_L1_imp (vs : List V) (st : List Ob) (K : Ex → St) (h : L.c9_L1_G vs st K) : ∃ fu, iterL (stepL (exec L.pg (CC L.pg L.Γ_c9 L.Δ_c9) (drawD L.pg L.Γ_c9 L.Δ_c9) .leaf (sub [true, true, true, false, false, false] (codeOf Tryz.f75))) 0 L.c9_L1_d K) fu (bld L.c9_L1_d.keep (mkL L.c9_L1_ss 0 vs) 0 49) (mkOs L.c9_L1_os 0 st) :=
  exMap (fun fu h => @Eq.mp _ _ (Eq.trans (L.c9_L1_eq (gR L.yc (gA vs 0)) (gS (gA vs 1)) (gI (gA vs 3)) K fu (gI (gA vs 4)) (gI (gA vs 5))) (by kernel_rfl)) h) (L.c9_L1.out h)
theorem L.c9_L1_ok : AnnOk L.pg (CC L.pg L.Γ_c9 L.Δ_c9) (drawD L.pg L.Γ_c9 L.Δ_c9) 0 (.lift L.c9_L1_d 49 L.c9_L1_F) (.loop (sub [true, true, true, false, false, false] (codeOf Tryz.f75))) :=
  lift_ok (an := .leaf) (ss := L.c9_L1_ss) (os := L.c9_L1_os) (G := L.c9_L1_G) rfl (Nat.le_of_ble_eq_true rfl) (annOk_leaf _) (L.c9_L1_imp)
def L.c9_B (x : L.T11) (target : ByteArray) (K : Int → Bool → Prop) : Prop :=
  L.c9_L1 x target 0 (x.length : Int) (fun i_ => ((((decide (i_ < (x.length : Int))) == true) = true → inB i_ x.length)) ∧ (bif (decide (i_ < (x.length : Int))) then L.h7 ((x.getD i_.toNat (ByteArray.empty, [])).1) ((x.getD i_.toNat (ByteArray.empty, [])).2) target (fun r => K i_ (bif true then (r == 0) else false)) else K i_ false))
structure L.c9 (x : L.T11) (target : ByteArray) (K : Int → Bool → Prop) : Prop where
  out : L.c9_B x target K
def L.c9_ss : List Sh := [.ro L.yc, .str, .fn 76 [] []]
def L.c9_G (vs : List V) (K : V → List Ob → Prop) : Prop := L.c9 (gR L.yc (gA vs 0)) (gS (gA vs 1)) (fun r0 r1 => K (.tup [.xi r0, .x (.bool r1)]) [])
def L.c9_S : SemF := fun args K => argF L.c9_ss args fun a => L.c9_G a K
theorem L.c9_eq (x : L.T11) (target : ByteArray) (K : V → List Ob → Prop) : run L.pg L.Γ_c9 L.Δ_c9 (.node .leaf (.node .leaf (.node .leaf (.node (.lift L.c9_L1_d 49 L.c9_L1_F) .leaf)))) .any Tryz.f75 [.ro L.yc x, .x (.string target), .fn (.func 76) [] []] K = L.c9_B x target (fun r0 r1 => K (.tup [.xi r0, .x (.bool r1)]) []) := by
  kernel_rfl
theorem L.c9_imp (vs : List V) (K : V → List Ob → Prop) : Imp (L.c9_G vs K) (run L.pg L.Γ_c9 L.Δ_c9 (.node .leaf (.node .leaf (.node .leaf (.node (.lift L.c9_L1_d 49 L.c9_L1_F) .leaf)))) .any Tryz.f75 (mkL L.c9_ss 0 vs) K) :=
  Imp.of (Eq.trans (b := run L.pg L.Γ_c9 L.Δ_c9 (.node .leaf (.node .leaf (.node .leaf (.node (.lift L.c9_L1_d 49 L.c9_L1_F) .leaf)))) .any Tryz.f75 [.ro L.yc (gR L.yc (gA vs 0)), .x (.string (gS (gA vs 1))), .fn (.func 76) [] []] K) (by kernel_rfl) (L.c9_eq (gR L.yc (gA vs 0)) (gS (gA vs 1)) K)) fun h => (L.c9.out h)
theorem L.c9_ok : SoundFn L.pg 75 L.c9_S :=
  fn_ok (sem := run L.pg L.Γ_c9 L.Δ_c9 (.node .leaf (.node .leaf (.node .leaf (.node (.lift L.c9_L1_d 49 L.c9_L1_F) .leaf)))) .any Tryz.f75) (ss := L.c9_ss) (G := L.c9_G) (run_ok L.Γ_c9_ok L.Δ_c9_ok Tryz.func75 (ann := (.node .leaf (.node .leaf (.node .leaf (.node (.lift L.c9_L1_d 49 L.c9_L1_F) .leaf))))) ⟨(annOk_leaf _), ⟨(annOk_leaf _), ⟨(annOk_leaf _), ⟨L.c9_L1_ok, (annOk_leaf _)⟩⟩⟩⟩) L.c9_imp
def L.Γ_e5 : Ctx := ctxA L.Γ_c9 75 L.c9_ss L.c9_G
theorem L.Γ_e5_ok : SoundG L.pg L.Γ_e5 := ctxA_ok L.Γ_c9_ok L.c9_ok
def L.Δ_e5 : CtxO := L.Δ_c9
theorem L.Δ_e5_ok : SoundGO L.pg L.Δ_e5 := L.Δ_c9_ok
def L.e5_B (files : L.T11) (path : ByteArray) (K : Int → Bool → Prop) : Prop :=
  L.c9 files path (fun r r1 => K r r1)
structure L.e5 (files : L.T11) (path : ByteArray) (K : Int → Bool → Prop) : Prop where
  out : L.e5_B files path K
def L.e5_ss : List Sh := [.ro L.yc, .str]
def L.e5_G (vs : List V) (K : V → List Ob → Prop) : Prop := L.e5 (gR L.yc (gA vs 0)) (gS (gA vs 1)) (fun r0 r1 => K (.tup [.xi r0, .x (.bool r1)]) [])
def L.e5_S : SemF := fun args K => argF L.e5_ss args fun a => L.e5_G a K
theorem L.e5_eq (files : L.T11) (path : ByteArray) (K : V → List Ob → Prop) : run L.pg L.Γ_e5 L.Δ_e5 .leaf .any Tryz.f64 [.ro L.yc files, .x (.string path)] K = L.e5_B files path (fun r0 r1 => K (.tup [.xi r0, .x (.bool r1)]) []) := by
  kernel_rfl
theorem L.e5_imp (vs : List V) (K : V → List Ob → Prop) : Imp (L.e5_G vs K) (run L.pg L.Γ_e5 L.Δ_e5 .leaf .any Tryz.f64 (mkL L.e5_ss 0 vs) K) :=
  Imp.of (Eq.trans (b := run L.pg L.Γ_e5 L.Δ_e5 .leaf .any Tryz.f64 [.ro L.yc (gR L.yc (gA vs 0)), .x (.string (gS (gA vs 1)))] K) (by kernel_rfl) (L.e5_eq (gR L.yc (gA vs 0)) (gS (gA vs 1)) K)) fun h => (L.e5.out h)
theorem L.e5_ok : SoundFn L.pg 64 L.e5_S :=
  fn_ok (sem := run L.pg L.Γ_e5 L.Δ_e5 .leaf .any Tryz.f64) (ss := L.e5_ss) (G := L.e5_G) (run_ok L.Γ_e5_ok L.Δ_e5_ok Tryz.func64 (ann := .leaf) (annOk_leaf _)) L.e5_imp
end Go.Proofs.YtnpjonhoihbaeaaGreatDoor

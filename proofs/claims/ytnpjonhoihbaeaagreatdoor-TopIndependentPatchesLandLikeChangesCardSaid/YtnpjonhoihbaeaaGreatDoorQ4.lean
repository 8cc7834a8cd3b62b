/-
  Part 4 of a proof of one law by a verified reader of the program: lifted functions, their plain specifications, the law. Conditions: none.
-/
import Derived.Test.YtnpjonhoihbaeaaGreatDoorQ3
import Derived.Test.YtnpjonhoihbaeaaGreatDoorProg
set_option linter.unusedVariables false
set_option maxRecDepth 100000
namespace Go.Proofs.YtnpjonhoihbaeaaGreatDoor
open Eng
noncomputable abbrev L.pg : Program := Tryz.prog
def gA (vs : List V) (i : Nat) : V := vs.getD i .any
def gD (st : List Ob) (i : Nat) : Ob := st.getD i .dead
abbrev L.yi : Type := List (List Int)
abbrev L.yh : Type := Int × (Int × (Bool × (Bool × (Bool × (List Int)))))
abbrev L.yg : Type := List ((Int × (List Int)) × Bool)
abbrev L.yf : Type := List ByteArray
abbrev L.ye : Ty := .slice (.int .i64)
abbrev L.yd : Type := List (Int × (Int × (Bool × (Bool × (Bool × Hd)))))
abbrev L.yc : Ty := .pair .str (.slice .str)
abbrev L.yb : Ty := .pair (.int .i64) (.pair (.int .i64) (.pair .bool (.pair .bool (.pair .bool .hnd))))
abbrev L.ya : Int × (Int × (Bool × (Bool × (Bool × Hd)))) := (0, (0, (false, (false, (false, Hd.nil)))))
abbrev L.T0 : Ty := (.slice (.pair (.int .i64) (.pair .str (.pair .str (.pair (.slice .str) (.slice (.pair (.int .i64) (.pair (.slice .str) (.slice .str)))))))))
abbrev L.T1 : Ty := (.pair (.int .i64) (.pair .str (.pair .str (.pair (.slice .str) (.slice (.pair (.int .i64) (.pair (.slice .str) (.slice .str))))))))
abbrev L.T2 : Type := List (List (Int × (ByteArray × (ByteArray × (L.yf × (List (Int × (L.yf × L.yf))))))))
abbrev L.T3 : Type := List (Int × (ByteArray × (ByteArray × (L.yf × (List (Int × (L.yf × L.yf)))))))
abbrev L.T5 : Ty := (.pair (.int .i64) (.pair (.int .i64) (.pair .bool (.pair .bool (.pair .bool L.ye)))))
abbrev L.T9 : Ty := (.pair (.int .i64) (.pair (.slice .str) (.slice .str)))
abbrev L.T10 : Type := List (Int × (L.yf × L.yf))
abbrev L.T11 : Type := List (ByteArray × L.yf)
def L.str1 : ByteArray := ⟨List.toArray [97, 98, 99, 100, 101, 102, 103, 104, 105, 106, 107, 108]⟩
def L.str2 : ByteArray := ⟨List.toArray []⟩
def L.str3 : ByteArray := ⟨List.toArray [47]⟩
def L.ΔS : CtxO := fun g => if g = 49 then some ([.sl L.yb, .any, .sl L.yb], Ins.insS) else if g = 50 then some ([.sl L.yb, .any, .any], Ins.delS) else if g = 67 then some ([.sl L.yc, .any, .any], InF.delS) else if g = 78 then some ([.sl L.yc, .any, .sl L.yc], InF.insS) else none
theorem L.ΔS_ok : SoundGO L.pg L.ΔS := by
  intro g x h
  unfold L.ΔS at h
  split at h
  · next e => cases h; subst e; exact Ins.insS_ok
  split at h
  · next e => cases h; subst e; exact Ins.delS_ok
  split at h
  · next e => cases h; subst e; exact InF.delS_ok
  split at h
  · next e => cases h; subst e; exact InF.insS_ok
  · cases h
def L.Γ_g5 : Ctx := ctx0
theorem L.Γ_g5_ok : SoundG L.pg L.Γ_g5 := ctx0_ok
def L.Δ_g5 : CtxO := L.ΔS
theorem L.Δ_g5_ok : SoundGO L.pg L.Δ_g5 := L.ΔS_ok
def L.g5_B (e : Int) (e1 : Int) (e2 : Bool) (e3 : Bool) (e4 : Bool) (e5 : (List Int)) (c : Int) (K : Bool → Prop) : Prop :=
  K (e == c)
structure L.g5 (e : Int) (e1 : Int) (e2 : Bool) (e3 : Bool) (e4 : Bool) (e5 : (List Int)) (c : Int) (K : Bool → Prop) : Prop where
  out : L.g5_B e e1 e2 e3 e4 e5 c K
def L.g5_ss : List Sh := [.agg [.int .i64, .int .i64, .bool, .bool, .bool, .ro (.int .i64)], .rc [.int .i64] 0]
def L.g5_G (vs : List V) (K : V → List Ob → Prop) : Prop := L.g5 (gI ((gC (gA vs 0)).getD 0 .any)) (gI ((gC (gA vs 0)).getD 1 .any)) (gB ((gC (gA vs 0)).getD 2 .any)) (gB ((gC (gA vs 0)).getD 3 .any)) (gB ((gC (gA vs 0)).getD 4 .any)) (gR (.int .i64) ((gC (gA vs 0)).getD 5 .any)) (gI ((gC (gA vs 1)).getD 0 .any)) (fun r0 => K (.x (.bool r0)) [])
def L.g5_S : SemF := fun args K => argF L.g5_ss args fun a => L.g5_G a K
theorem L.g5_eq (e : Int) (e1 : Int) (e2 : Bool) (e3 : Bool) (e4 : Bool) (e5 : (List Int)) (c : Int) (K : V → List Ob → Prop) : run L.pg L.Γ_g5 L.Δ_g5 .leaf .any Tryz.f48 [.agg [.xi e, .xi e1, .x (.bool e2), .x (.bool e3), .x (.bool e4), .ro (.int .i64) e5], .rc [.xi c] 0] K = L.g5_B e e1 e2 e3 e4 e5 c (fun r0 => K (.x (.bool r0)) []) := by
  kernel_rfl
theorem L.g5_imp (vs : List V) (K : V → List Ob → Prop) : Imp (L.g5_G vs K) (run L.pg L.Γ_g5 L.Δ_g5 .leaf .any Tryz.f48 (mkL L.g5_ss 0 vs) K) :=
  Imp.of (Eq.trans (b := run L.pg L.Γ_g5 L.Δ_g5 .leaf .any Tryz.f48 [.agg [.xi (gI ((gC (gA vs 0)).getD 0 .any)), .xi (gI ((gC (gA vs 0)).getD 1 .any)), .x (.bool (gB ((gC (gA vs 0)).getD 2 .any))), .x (.bool (gB ((gC (gA vs 0)).getD 3 .any))), .x (.bool (gB ((gC (gA vs 0)).getD 4 .any))), .ro (.int .i64) (gR (.int .i64) ((gC (gA vs 0)).getD 5 .any))], .rc [.xi (gI ((gC (gA vs 1)).getD 0 .any))] 0] K) (by kernel_rfl) (L.g5_eq (gI ((gC (gA vs 0)).getD 0 .any)) (gI ((gC (gA vs 0)).getD 1 .any)) (gB ((gC (gA vs 0)).getD 2 .any)) (gB ((gC (gA vs 0)).getD 3 .any)) (gB ((gC (gA vs 0)).getD 4 .any)) (gR (.int .i64) ((gC (gA vs 0)).getD 5 .any)) (gI ((gC (gA vs 1)).getD 0 .any)) K)) fun h => (L.g5.out h)
theorem L.g5_ok : SoundFn L.pg 48 L.g5_S :=
  fn_ok (sem := run L.pg L.Γ_g5 L.Δ_g5 .leaf .any Tryz.f48) (ss := L.g5_ss) (G := L.g5_G) (run_ok L.Γ_g5_ok L.Δ_g5_ok Tryz.func48 (ann := .leaf) (annOk_leaf _)) L.g5_imp
def L.Γ_d3 : Ctx := ctxA L.Γ_g5 48 L.g5_ss L.g5_G
theorem L.Γ_d3_ok : SoundG L.pg L.Γ_d3 := ctxA_ok L.Γ_g5_ok L.g5_ok
def L.Δ_d3 : CtxO := L.Δ_g5
theorem L.Δ_d3_ok : SoundGO L.pg L.Δ_d3 := L.Δ_g5_ok
def L.d3_L1_b (s1 : (List L.yh)) (f1 : Int) (v7 : Int) (v8 : Int) (self : Int → Prop) (Kx0 : Prop) (Kr : Int → Prop) : Prop :=
  (bif (decide (v8 < v7)) then (inB v8 s1.length) ∧ L.g5 ((s1.getD v8.toNat (0, (0, (false, (false, (false, [])))))).1) ((s1.getD v8.toNat (0, (0, (false, (false, (false, [])))))).2.1) ((s1.getD v8.toNat (0, (0, (false, (false, (false, [])))))).2.2.1) ((s1.getD v8.toNat (0, (0, (false, (false, (false, [])))))).2.2.2.1) ((s1.getD v8.toNat (0, (0, (false, (false, (false, [])))))).2.2.2.2.1) ((s1.getD v8.toNat (0, (0, (false, (false, (false, [])))))).2.2.2.2.2) f1 (fun r => (bif r then Kr v8 else self (i64 (v8 + 1)))) else Kx0)
def L.d3_L1_R (s1 : (List L.yh)) (f1 : Int) (v7 : Int) : Nat → Int → (Prop) → (Int → Prop) → Prop
  | 0, _, _, _ => False
  | fu + 1, v8, Kx0, Kr => L.d3_L1_b s1 f1 v7 v8 (fun v8 => L.d3_L1_R s1 f1 v7 fu v8 Kx0 Kr) Kx0 Kr
structure L.d3_L1 (s1 : (List L.yh)) (f1 : Int) (v7 : Int) (v8 : Int) (Kx0 : Prop) (Kr : Int → Prop) : Prop where
  out : ∃ fu, L.d3_L1_R s1 f1 v7 fu v8 Kx0 Kr
def L.d3_L1_d : LoopD := { base := 0, vecs := [], flds := [], keep := [0, 1, 7, 8], out := [], rets := [4], rv := [], rbase := 0 }
def L.d3_L1_ss : List Sh := [.ro L.T5, .fn 48 [] [.rc [.int .i64] 0], .int .i64, .int .i64]
def L.d3_L1_os : List OSh := []
def L.d3_L1_G (vs : List V) (st : List Ob) (K : Ex → St) : Prop := L.d3_L1 (gR L.T5 (gA vs 0)) (gI ((gC ((gFc (gA vs 1)).getD 0 .any)).getD 0 .any)) (gI (gA vs 2)) (gI (gA vs 3)) (K (.exit 0) (bld [] [] 0 19) []) (fun q0_ => K .ret (bld [4] [.xi q0_] 0 19) [])
def L.d3_L1_F (vs : List V) (st : List Ob) (K : Ex → St) : Prop := fitF L.d3_L1_ss L.d3_L1_os vs st (L.d3_L1_G vs st K)
theorem L.d3_L1_eq (s1 : (List L.yh)) (f1 : Int) (v7 : Int) (K : Ex → St) : ∀ (fu : Nat) (v8 : Int), L.d3_L1_R s1 f1 v7 fu v8 (K (.exit 0) (bld [] [] 0 19) []) (fun q0_ => K .ret (bld [4] [.xi q0_] 0 19) []) = iterL (stepL (exec L.pg (CC L.pg L.Γ_d3 L.Δ_d3) (drawD L.pg L.Γ_d3 L.Δ_d3) .leaf (sub [true, false, true, false, false] (codeOf Tryz.f47))) 0 L.d3_L1_d K) fu (bld L.d3_L1_d.keep [.ro L.T5 s1, .fn (.func 48) [] [.rc [.xi f1] 0], .xi v7, .xi v8] 0 19) [] := by
  intro fu
  induction fu with
  | zero => intros; rfl
  | succ fu ih =>
    intro v8
    have e : (fun v8 => L.d3_L1_R s1 f1 v7 fu v8 (K (.exit 0) (bld [] [] 0 19) []) (fun q0_ => K .ret (bld [4] [.xi q0_] 0 19) [])) = fun v8 => iterL (stepL (exec L.pg (CC L.pg L.Γ_d3 L.Δ_d3) (drawD L.pg L.Γ_d3 L.Δ_d3) .leaf (sub [true, false, true, false, false] (codeOf Tryz.f47))) 0 L.d3_L1_d K) fu (bld L.d3_L1_d.keep [.ro L.T5 s1, .fn (.func 48) [] [.rc [.xi f1] 0], .xi v7, .xi v8] 0 19) [] := by
      funext v8; exact ih v8
    show L.d3_L1_b s1 f1 v7 v8 (fun v8 => L.d3_L1_R s1 f1 v7 fu v8 (K (.exit 0) (bld [] [] 0 19) []) (fun q0_ => K .ret (bld [4] [.xi q0_] 0 19) [])) (K (.exit 0) (bld [] [] 0 19) []) (fun q0_ => K .ret (bld [4] [.xi q0_] 0 19) []) = _
    rw [e]
    kernel_rfl
theorem L.d3_L1_imp (vs : List V) (st : List Ob) (K : Ex → St) (h : L.d3_L1_G vs st K) : ∃ fu, iterL (stepL (exec L.pg (CC L.pg L.Γ_d3 L.Δ_d3) (drawD L.pg L.Γ_d3 L.Δ_d3) .leaf (sub [true, false, true, false, false] (codeOf Tryz.f47))) 0 L.d3_L1_d K) fu (bld L.d3_L1_d.keep (mkL L.d3_L1_ss 0 vs) 0 19) (mkOs L.d3_L1_os 0 st) :=
  exMap (fun fu h => @Eq.mp _ _ (Eq.trans (L.d3_L1_eq (gR L.T5 (gA vs 0)) (gI ((gC ((gFc (gA vs 1)).getD 0 .any)).getD 0 .any)) (gI (gA vs 2)) K fu (gI (gA vs 3))) (by kernel_rfl)) h) (L.d3_L1.out h)
theorem L.d3_L1_ok : AnnOk L.pg (CC L.pg L.Γ_d3 L.Δ_d3) (drawD L.pg L.Γ_d3 L.Δ_d3) 0 (.lift L.d3_L1_d 19 L.d3_L1_F) (.loop (sub [true, false, true, false, false] (codeOf Tryz.f47))) :=
  lift_ok (an := .leaf) (ss := L.d3_L1_ss) (os := L.d3_L1_os) (G := L.d3_L1_G) rfl (Nat.le_of_ble_eq_true rfl) (annOk_leaf _) (L.d3_L1_imp)
def L.d3_B (s : (List L.yh)) (f : Int) (K : Int → Prop) : Prop :=
  L.d3_L1 s f (s.length : Int) 0 (K (-1)) (fun r => K r)
structure L.d3 (s : (List L.yh)) (f : Int) (K : Int → Prop) : Prop where
  out : L.d3_B s f K
def L.d3_ss : List Sh := [.ro L.T5, .fn 48 [] [.rc [.int .i64] 0]]
def L.d3_G (vs : List V) (K : V → List Ob → Prop) : Prop := L.d3 (gR L.T5 (gA vs 0)) (gI ((gC ((gFc (gA vs 1)).getD 0 .any)).getD 0 .any)) (fun r0 => K (.xi r0) [])
def L.d3_S : SemF := fun args K => argF L.d3_ss args fun a => L.d3_G a K
theorem L.d3_eq (s : (List L.yh)) (f : Int) (K : V → List Ob → Prop) : run L.pg L.Γ_d3 L.Δ_d3 (.node .leaf (.node (.node .leaf (.lift L.d3_L1_d 19 L.d3_L1_F)) .leaf)) .any Tryz.f47 [.ro L.T5 s, .fn (.func 48) [] [.rc [.xi f] 0]] K = L.d3_B s f (fun r0 => K (.xi r0) []) := by
  kernel_rfl
theorem L.d3_imp (vs : List V) (K : V → List Ob → Prop) : Imp (L.d3_G vs K) (run L.pg L.Γ_d3 L.Δ_d3 (.node .leaf (.node (.node .leaf (.lift L.d3_L1_d 19 L.d3_L1_F)) .leaf)) .any Tryz.f47 (mkL L.d3_ss 0 vs) K) :=
  Imp.of (Eq.trans (b := run L.pg L.Γ_d3 L.Δ_d3 (.node .leaf (.node (.node .leaf (.lift L.d3_L1_d 19 L.d3_L1_F)) .leaf)) .any Tryz.f47 [.ro L.T5 (gR L.T5 (gA vs 0)), .fn (.func 48) [] [.rc [.xi (gI ((gC ((gFc (gA vs 1)).getD 0 .any)).getD 0 .any))] 0]] K) (by kernel_rfl) (L.d3_eq (gR L.T5 (gA vs 0)) (gI ((gC ((gFc (gA vs 1)).getD 0 .any)).getD 0 .any)) K)) fun h => (L.d3.out h)
theorem L.d3_ok : SoundFn L.pg 47 L.d3_S :=
  fn_ok (sem := run L.pg L.Γ_d3 L.Δ_d3 (.node .leaf (.node (.node .leaf (.lift L.d3_L1_d 19 L.d3_L1_F)) .leaf)) .any Tryz.f47) (ss := L.d3_ss) (G := L.d3_G) (run_ok L.Γ_d3_ok L.Δ_d3_ok Tryz.func47 (ann := (.node .leaf (.node (.node .leaf (.lift L.d3_L1_d 19 L.d3_L1_F)) .leaf))) ⟨(annOk_leaf _), ⟨⟨(annOk_leaf _), L.d3_L1_ok⟩, (annOk_leaf _)⟩⟩) L.d3_imp
def L.Γ_e4 : Ctx := ctxA L.Γ_d3 47 L.d3_ss L.d3_G
theorem L.Γ_e4_ok : SoundG L.pg L.Γ_e4 := ctxA_ok L.Γ_d3_ok L.d3_ok
def L.Δ_e4 : CtxO := L.Δ_d3
theorem L.Δ_e4_ok : SoundGO L.pg L.Δ_e4 := L.Δ_d3_ok
def L.e4_B (q_QueueState_Entries : (List L.yh)) (q_QueueState_Landed : (List Int)) (q_QueueState_Rejected : (List Int)) (q_window : Int) (change : Int) (K : Int → Prop) : Prop :=
  L.d3 q_QueueState_Entries change (fun r => K r)
structure L.e4 (q_QueueState_Entries : (List L.yh)) (q_QueueState_Landed : (List Int)) (q_QueueState_Rejected : (List Int)) (q_window : Int) (change : Int) (K : Int → Prop) : Prop where
  out : L.e4_B q_QueueState_Entries q_QueueState_Landed q_QueueState_Rejected q_window change K
def L.e4_ss : List Sh := [.rc [.ro L.T5, .ro (.int .i64), .ro (.int .i64), .int .i64] 0, .int .i64]
def L.e4_G (vs : List V) (K : V → List Ob → Prop) : Prop := L.e4 (gR L.T5 ((gC (gA vs 0)).getD 0 .any)) (gR (.int .i64) ((gC (gA vs 0)).getD 1 .any)) (gR (.int .i64) ((gC (gA vs 0)).getD 2 .any)) (gI ((gC (gA vs 0)).getD 3 .any)) (gI (gA vs 1)) (fun r0 => K (.xi r0) [])
def L.e4_S : SemF := fun args K => argF L.e4_ss args fun a => L.e4_G a K
theorem L.e4_eq (q_QueueState_Entries : (List L.yh)) (q_QueueState_Landed : (List Int)) (q_QueueState_Rejected : (List Int)) (q_window : Int) (change : Int) (K : V → List Ob → Prop) : run L.pg L.Γ_e4 L.Δ_e4 .leaf .any Tryz.f28 [.rc [.ro L.T5 q_QueueState_Entries, .ro (.int .i64) q_QueueState_Landed, .ro (.int .i64) q_QueueState_Rejected, .xi q_window] 0, .xi change] K = L.e4_B q_QueueState_Entries q_QueueState_Landed q_QueueState_Rejected q_window change (fun r0 => K (.xi r0) []) := by
  kernel_rfl
theorem L.e4_imp (vs : List V) (K : V → List Ob → Prop) : Imp (L.e4_G vs K) (run L.pg L.Γ_e4 L.Δ_e4 .leaf .any Tryz.f28 (mkL L.e4_ss 0 vs) K) :=
  Imp.of (Eq.trans (b := run L.pg L.Γ_e4 L.Δ_e4 .leaf .any Tryz.f28 [.rc [.ro L.T5 (gR L.T5 ((gC (gA vs 0)).getD 0 .any)), .ro (.int .i64) (gR (.int .i64) ((gC (gA vs 0)).getD 1 .any)), .ro (.int .i64) (gR (.int .i64) ((gC (gA vs 0)).getD 2 .any)), .xi (gI ((gC (gA vs 0)).getD 3 .any))] 0, .xi (gI (gA vs 1))] K) (by kernel_rfl) (L.e4_eq (gR L.T5 ((gC (gA vs 0)).getD 0 .any)) (gR (.int .i64) ((gC (gA vs 0)).getD 1 .any)) (gR (.int .i64) ((gC (gA vs 0)).getD 2 .any)) (gI ((gC (gA vs 0)).getD 3 .any)) (gI (gA vs 1)) K)) fun h => (L.e4.out h)
theorem L.e4_ok : SoundFn L.pg 28 L.e4_S :=
  fn_ok (sem := run L.pg L.Γ_e4 L.Δ_e4 .leaf .any Tryz.f28) (ss := L.e4_ss) (G := L.e4_G) (run_ok L.Γ_e4_ok L.Δ_e4_ok Tryz.func28 (ann := .leaf) (annOk_leaf _)) L.e4_imp
def L.Γ_c2 : Ctx := ctxC L.Γ_e4 28 L.e4_S
theorem L.Γ_c2_ok : SoundG L.pg L.Γ_c2 := ctxC_ok L.Γ_e4_ok L.e4_ok
def L.Δ_c2 : CtxO := L.Δ_e4
theorem L.Δ_c2_ok : SoundGO L.pg L.Δ_c2 := L.Δ_e4_ok
def L.c2_L1_b (s1 : (List Int)) (v1 : Int) (v7 : Int) (v8 : Int) (self : Int → Prop) (Kx0 : Prop) (Kr : Int → Prop) : Prop :=
  (bif (decide (v8 < v7)) then (inB v8 s1.length) ∧ (bif (v1 == (s1.getD v8.toNat 0)) then Kr v8 else self (i64 (v8 + 1))) else Kx0)
def L.c2_L1_R (s1 : (List Int)) (v1 : Int) (v7 : Int) : Nat → Int → (Prop) → (Int → Prop) → Prop
  | 0, _, _, _ => False
  | fu + 1, v8, Kx0, Kr => L.c2_L1_b s1 v1 v7 v8 (fun v8 => L.c2_L1_R s1 v1 v7 fu v8 Kx0 Kr) Kx0 Kr
structure L.c2_L1 (s1 : (List Int)) (v1 : Int) (v7 : Int) (v8 : Int) (Kx0 : Prop) (Kr : Int → Prop) : Prop where
  out : ∃ fu, L.c2_L1_R s1 v1 v7 fu v8 Kx0 Kr
def L.c2_L1_d : LoopD := { base := 0, vecs := [], flds := [], keep := [0, 1, 7, 8], out := [], rets := [4], rv := [], rbase := 0 }
def L.c2_L1_ss : List Sh := [.ro (.int .i64), .int .i64, .int .i64, .int .i64]
def L.c2_L1_os : List OSh := []
def L.c2_L1_G (vs : List V) (st : List Ob) (K : Ex → St) : Prop := L.c2_L1 (gR (.int .i64) (gA vs 0)) (gI (gA vs 1)) (gI (gA vs 2)) (gI (gA vs 3)) (K (.exit 0) (bld [] [] 0 19) []) (fun q0_ => K .ret (bld [4] [.xi q0_] 0 19) [])
def L.c2_L1_F (vs : List V) (st : List Ob) (K : Ex → St) : Prop := fitF L.c2_L1_ss L.c2_L1_os vs st (L.c2_L1_G vs st K)
theorem L.c2_L1_eq (s1 : (List Int)) (v1 : Int) (v7 : Int) (K : Ex → St) : ∀ (fu : Nat) (v8 : Int), L.c2_L1_R s1 v1 v7 fu v8 (K (.exit 0) (bld [] [] 0 19) []) (fun q0_ => K .ret (bld [4] [.xi q0_] 0 19) []) = iterL (stepL (exec L.pg (CC L.pg L.Γ_c2 L.Δ_c2) (drawD L.pg L.Γ_c2 L.Δ_c2) .leaf (sub [true, false, true, false, false] (codeOf Tryz.f41))) 0 L.c2_L1_d K) fu (bld L.c2_L1_d.keep [.ro (.int .i64) s1, .xi v1, .xi v7, .xi v8] 0 19) [] := by
  intro fu
  induction fu with
  | zero => intros; rfl
  | succ fu ih =>
    intro v8
    have e : (fun v8 => L.c2_L1_R s1 v1 v7 fu v8 (K (.exit 0) (bld [] [] 0 19) []) (fun q0_ => K .ret (bld [4] [.xi q0_] 0 19) [])) = fun v8 => iterL (stepL (exec L.pg (CC L.pg L.Γ_c2 L.Δ_c2) (drawD L.pg L.Γ_c2 L.Δ_c2) .leaf (sub [true, false, true, false, false] (codeOf Tryz.f41))) 0 L.c2_L1_d K) fu (bld L.c2_L1_d.keep [.ro (.int .i64) s1, .xi v1, .xi v7, .xi v8] 0 19) [] := by
      funext v8; exact ih v8
    show L.c2_L1_b s1 v1 v7 v8 (fun v8 => L.c2_L1_R s1 v1 v7 fu v8 (K (.exit 0) (bld [] [] 0 19) []) (fun q0_ => K .ret (bld [4] [.xi q0_] 0 19) [])) (K (.exit 0) (bld [] [] 0 19) []) (fun q0_ => K .ret (bld [4] [.xi q0_] 0 19) []) = _
    rw [e]
    kernel_rfl
theorem L.c2_L1_imp (vs : List V) (st : List Ob) (K : Ex → St) (h : L.c2_L1_G vs st K) : ∃ fu, iterL (stepL (exec L.pg (CC L.pg L.Γ_c2 L.Δ_c2) (drawD L.pg L.Γ_c2 L.Δ_c2) .leaf (sub [true, false, true, false, false] (codeOf Tryz.f41))) 0 L.c2_L1_d K) fu (bld L.c2_L1_d.keep (mkL L.c2_L1_ss 0 vs) 0 19) (mkOs L.c2_L1_os 0 st) :=
  exMap (fun fu h => @Eq.mp _ _ (Eq.trans (L.c2_L1_eq (gR (.int .i64) (gA vs 0)) (gI (gA vs 1)) (gI (gA vs 2)) K fu (gI (gA vs 3))) (by kernel_rfl)) h) (L.c2_L1.out h)
theorem L.c2_L1_ok : AnnOk L.pg (CC L.pg L.Γ_c2 L.Δ_c2) (drawD L.pg L.Γ_c2 L.Δ_c2) 0 (.lift L.c2_L1_d 19 L.c2_L1_F) (.loop (sub [true, false, true, false, false] (codeOf Tryz.f41))) :=
  lift_ok (an := .leaf) (ss := L.c2_L1_ss) (os := L.c2_L1_os) (G := L.c2_L1_G) rfl (Nat.le_of_ble_eq_true rfl) (annOk_leaf _) (L.c2_L1_imp)
def L.c2_B (s : (List Int)) (v : Int) (K : Int → Prop) : Prop :=
  L.c2_L1 s v (s.length : Int) 0 (K (-1)) (fun r => K r)
structure L.c2 (s : (List Int)) (v : Int) (K : Int → Prop) : Prop where
  out : L.c2_B s v K
def L.c2_ss : List Sh := [.ro (.int .i64), .int .i64]
def L.c2_G (vs : List V) (K : V → List Ob → Prop) : Prop := L.c2 (gR (.int .i64) (gA vs 0)) (gI (gA vs 1)) (fun r0 => K (.xi r0) [])
def L.c2_S : SemF := fun args K => argF L.c2_ss args fun a => L.c2_G a K
theorem L.c2_eq (s : (List Int)) (v : Int) (K : V → List Ob → Prop) : run L.pg L.Γ_c2 L.Δ_c2 (.node .leaf (.node (.node .leaf (.lift L.c2_L1_d 19 L.c2_L1_F)) .leaf)) .any Tryz.f41 [.ro (.int .i64) s, .xi v] K = L.c2_B s v (fun r0 => K (.xi r0) []) := by
  kernel_rfl
theorem L.c2_imp (vs : List V) (K : V → List Ob → Prop) : Imp (L.c2_G vs K) (run L.pg L.Γ_c2 L.Δ_c2 (.node .leaf (.node (.node .leaf (.lift L.c2_L1_d 19 L.c2_L1_F)) .leaf)) .any Tryz.f41 (mkL L.c2_ss 0 vs) K) :=
  Imp.of (Eq.trans (b := run L.pg L.Γ_c2 L.Δ_c2 (.node .leaf (.node (.node .leaf (.lift L.c2_L1_d 19 L.c2_L1_F)) .leaf)) .any Tryz.f41 [.ro (.int .i64) (gR (.int .i64) (gA vs 0)), .xi (gI (gA vs 1))] K) (by kernel_rfl) (L.c2_eq (gR (.int .i64) (gA vs 0)) (gI (gA vs 1)) K)) fun h => (L.c2.out h)
theorem L.c2_ok : SoundFn L.pg 41 L.c2_S :=
  fn_ok (sem := run L.pg L.Γ_c2 L.Δ_c2 (.node .leaf (.node (.node .leaf (.lift L.c2_L1_d 19 L.c2_L1_F)) .leaf)) .any Tryz.f41) (ss := L.c2_ss) (G := L.c2_G) (run_ok L.Γ_c2_ok L.Δ_c2_ok Tryz.func41 (ann := (.node .leaf (.node (.node .leaf (.lift L.c2_L1_d 19 L.c2_L1_F)) .leaf))) ⟨(annOk_leaf _), ⟨⟨(annOk_leaf _), L.c2_L1_ok⟩, (annOk_leaf _)⟩⟩) L.c2_imp
def L.Γ_f1 : Ctx := ctxC L.Γ_c2 41 L.c2_S
theorem L.Γ_f1_ok : SoundG L.pg L.Γ_f1 := ctxC_ok L.Γ_c2_ok L.c2_ok
def L.Δ_f1 : CtxO := L.Δ_c2
theorem L.Δ_f1_ok : SoundGO L.pg L.Δ_f1 := L.Δ_c2_ok
def L.f1_B (s : (List Int)) (v : Int) (K : Bool → Prop) : Prop :=
  L.c2 s v (fun r => K (decide (r ≥ 0)))
structure L.f1 (s : (List Int)) (v : Int) (K : Bool → Prop) : Prop where
  out : L.f1_B s v K
def L.f1_ss : List Sh := [.ro (.int .i64), .int .i64]
def L.f1_G (vs : List V) (K : V → List Ob → Prop) : Prop := L.f1 (gR (.int .i64) (gA vs 0)) (gI (gA vs 1)) (fun r0 => K (.x (.bool r0)) [])
def L.f1_S : SemF := fun args K => argF L.f1_ss args fun a => L.f1_G a K
theorem L.f1_eq (s : (List Int)) (v : Int) (K : V → List Ob → Prop) : run L.pg L.Γ_f1 L.Δ_f1 .leaf .any Tryz.f24 [.ro (.int .i64) s, .xi v] K = L.f1_B s v (fun r0 => K (.x (.bool r0)) []) := by
  kernel_rfl
theorem L.f1_imp (vs : List V) (K : V → List Ob → Prop) : Imp (L.f1_G vs K) (run L.pg L.Γ_f1 L.Δ_f1 .leaf .any Tryz.f24 (mkL L.f1_ss 0 vs) K) :=
  Imp.of (Eq.trans (b := run L.pg L.Γ_f1 L.Δ_f1 .leaf .any Tryz.f24 [.ro (.int .i64) (gR (.int .i64) (gA vs 0)), .xi (gI (gA vs 1))] K) (by kernel_rfl) (L.f1_eq (gR (.int .i64) (gA vs 0)) (gI (gA vs 1)) K)) fun h => (L.f1.out h)
theorem L.f1_ok : SoundFn L.pg 24 L.f1_S :=
  fn_ok (sem := run L.pg L.Γ_f1 L.Δ_f1 .leaf .any Tryz.f24) (ss := L.f1_ss) (G := L.f1_G) (run_ok L.Γ_f1_ok L.Δ_f1_ok Tryz.func24 (ann := .leaf) (annOk_leaf _)) L.f1_imp
def L.Γ_e2 : Ctx := ctxC L.Γ_f1 24 L.f1_S
theorem L.Γ_e2_ok : SoundG L.pg L.Γ_e2 := ctxC_ok L.Γ_f1_ok L.f1_ok
def L.Δ_e2 : CtxO := L.Δ_f1
theorem L.Δ_e2_ok : SoundGO L.pg L.Δ_e2 := L.Δ_f1_ok
def L.e2_J1_B (q : (List L.yh)) (add : Bool) (k : Int) (v50 : Bool) (e : Int) (Kn : Prop) (Kr : Int → Prop) : Prop :=
  (bif v50 then Kr 7 else (bif (bif add then (decide ((q.length : Int) ≥ 10)) else false) then Kr 14 else (bif (bif (!add) then (decide (k < 0)) else false) then Kr 6 else ((((decide (e ≥ 3)) == true) = true → inB k q.length)) ∧ (bif (bif (decide (e ≥ 3)) then (!((q.getD k.toNat (0, (0, (false, (false, (false, [])))))).2.2.1)) else false) then Kr 11 else Kn))))
structure L.e2_J1 (q : (List L.yh)) (add : Bool) (k : Int) (v50 : Bool) (e : Int) (Kn : Prop) (Kr : Int → Prop) : Prop where
  out : L.e2_J1_B q add k v50 e Kn Kr
def L.e2_J1_d : CutD := { base := 1, vecs := [], flds := [], keep := [0, 3, 5, 6, 50], out := [], rets := [4], ovecs := [], oflds := [], rv := [], rbase := 0 }
def L.e2_J1_ss : List Sh := [.rc [.ro L.T5, .ro (.int .i64), .ro (.int .i64), .int .i64] 0, .cl 0 0, .bool, .int .i64, .bool]
def L.e2_J1_os : List OSh := [.cells [.int .i64, .int .i64, .int .i64]]
def L.e2_J1_G (vs : List V) (st : List Ob) (K : Ex → St) : Prop := L.e2_J1 (gR L.T5 ((gC (gA vs 0)).getD 0 .any)) (gB (gA vs 2)) (gI (gA vs 3)) (gB (gA vs 4)) (cI st 0 0) (K .normal (bld [] [] 0 110) [.cells [.xi (cI st 0 0), .xi (cI st 0 1), .xi (cI st 0 2)]]) (fun q0_ => K .ret (bld [4] [.xi q0_] 0 110) [])
def L.e2_J1_F (vs : List V) (st : List Ob) (K : Ex → St) : Prop := fitF L.e2_J1_ss L.e2_J1_os vs st (L.e2_J1_G vs st K)
theorem L.e2_J1_eq (q : (List L.yh)) (q1 : (List Int)) (q2 : (List Int)) (q3 : Int) (add : Bool) (k : Int) (v50 : Bool) (e : Int) (e1 : Int) (e2 : Int) (K : Ex → St) : L.e2_J1_B q add k v50 e (K .normal (bld [] [] 0 110) [.cells [.xi e, .xi e1, .xi e2]]) (fun q0_ => K .ret (bld [4] [.xi q0_] 0 110) []) = exec L.pg (CC L.pg L.Γ_e2 L.Δ_e2) (drawD L.pg L.Γ_e2 L.Δ_e2) .leaf (sub [true, true, true, false, false, true, true, true, true, true, true, true] (codeOf Tryz.f15)) (bld L.e2_J1_d.keep [.rc [.ro L.T5 q, .ro (.int .i64) q1, .ro (.int .i64) q2, .xi q3] 0, .cl 0 0, .x (.bool add), .xi k, .x (.bool v50)] 0 110) [.cells [.xi e, .xi e1, .xi e2]] (cutK L.e2_J1_d K) := by
  kernel_rfl
theorem L.e2_J1_ok (vs : List V) (st : List Ob) (K : Ex → St) : Imp (L.e2_J1_G vs st K) (exec L.pg (CC L.pg L.Γ_e2 L.Δ_e2) (drawD L.pg L.Γ_e2 L.Δ_e2) .leaf (sub [true, true, true, false, false, true, true, true, true, true, true, true] (codeOf Tryz.f15)) (bld L.e2_J1_d.keep (mkL L.e2_J1_ss 0 vs) 0 110) (mkOs L.e2_J1_os 0 st) (cutK L.e2_J1_d K)) :=
  Imp.of (Eq.trans (b := exec L.pg (CC L.pg L.Γ_e2 L.Δ_e2) (drawD L.pg L.Γ_e2 L.Δ_e2) .leaf (sub [true, true, true, false, false, true, true, true, true, true, true, true] (codeOf Tryz.f15)) (bld L.e2_J1_d.keep [.rc [.ro L.T5 (gR L.T5 ((gC (gA vs 0)).getD 0 .any)), .ro (.int .i64) (gR (.int .i64) ((gC (gA vs 0)).getD 1 .any)), .ro (.int .i64) (gR (.int .i64) ((gC (gA vs 0)).getD 2 .any)), .xi (gI ((gC (gA vs 0)).getD 3 .any))] 0, .cl 0 0, .x (.bool (gB (gA vs 2))), .xi (gI (gA vs 3)), .x (.bool (gB (gA vs 4)))] 0 110) [.cells [.xi (cI st 0 0), .xi (cI st 0 1), .xi (cI st 0 2)]] (cutK L.e2_J1_d K)) (by kernel_rfl) (Eq.symm (L.e2_J1_eq (gR L.T5 ((gC (gA vs 0)).getD 0 .any)) (gR (.int .i64) ((gC (gA vs 0)).getD 1 .any)) (gR (.int .i64) ((gC (gA vs 0)).getD 2 .any)) (gI ((gC (gA vs 0)).getD 3 .any)) (gB (gA vs 2)) (gI (gA vs 3)) (gB (gA vs 4)) (cI st 0 0) (cI st 0 1) (cI st 0 2) K))) fun h => (L.e2_J1.out h)
def L.e2_B (q_QueueState_Entries : (List L.yh)) (q_QueueState_Landed : (List Int)) (q_QueueState_Rejected : (List Int)) (q_window : Int) (e_Kind : Int) (e_Change : Int) (e_Priority : Int) (K : Int → Prop) : Prop :=
  L.e4 q_QueueState_Entries q_QueueState_Landed q_QueueState_Rejected q_window e_Change (fun r => (bif (bif (decide (e_Kind < 1)) then true else (decide (e_Kind > 4))) then K 4 else (bif (bif (bif (bif (decide (e_Change < 1)) then true else (decide (e_Change > 1000000000))) then true else (decide (e_Priority < 0))) then true else (decide (e_Priority > 3))) then K 3 else (bif (bif (!(e_Kind == 1)) then (e_Priority != 0) else false) then K 5 else (bif okAll [((e_Kind == 1), true), ((decide (r ≥ 0)), false)] then L.f1 q_QueueState_Landed e_Change (fun r1 => (bif okAll [((e_Kind == 1), true), ((bif (decide (r ≥ 0)) then true else r1), false)] then L.f1 q_QueueState_Rejected e_Change (fun r2 => L.e2_J1 q_QueueState_Entries (e_Kind == 1) r (bif (bif (decide (r ≥ 0)) then true else r1) then true else r2) e_Kind (K 0) K) else L.e2_J1 q_QueueState_Entries (e_Kind == 1) r true e_Kind (K 0) K)) else (bif okAll [((e_Kind == 1), true)] then (bif okAll [((e_Kind == 1), true), (true, false)] then L.f1 q_QueueState_Rejected e_Change (fun r2 => L.e2_J1 q_QueueState_Entries (e_Kind == 1) r (bif true then true else r2) e_Kind (K 0) K) else L.e2_J1 q_QueueState_Entries (e_Kind == 1) r true e_Kind (K 0) K) else L.e2_J1 q_QueueState_Entries (e_Kind == 1) r false e_Kind (K 0) K))))))
structure L.e2 (q_QueueState_Entries : (List L.yh)) (q_QueueState_Landed : (List Int)) (q_QueueState_Rejected : (List Int)) (q_window : Int) (e_Kind : Int) (e_Change : Int) (e_Priority : Int) (K : Int → Prop) : Prop where
  out : L.e2_B q_QueueState_Entries q_QueueState_Landed q_QueueState_Rejected q_window e_Kind e_Change e_Priority K
def L.e2_ss : List Sh := [.rc [.ro L.T5, .ro (.int .i64), .ro (.int .i64), .int .i64] 0, .agg [.int .i64, .int .i64, .int .i64]]
def L.e2_G (vs : List V) (K : V → List Ob → Prop) : Prop := L.e2 (gR L.T5 ((gC (gA vs 0)).getD 0 .any)) (gR (.int .i64) ((gC (gA vs 0)).getD 1 .any)) (gR (.int .i64) ((gC (gA vs 0)).getD 2 .any)) (gI ((gC (gA vs 0)).getD 3 .any)) (gI ((gC (gA vs 1)).getD 0 .any)) (gI ((gC (gA vs 1)).getD 1 .any)) (gI ((gC (gA vs 1)).getD 2 .any)) (fun r0 => K (.xi r0) [])
def L.e2_S : SemF := fun args K => argF L.e2_ss args fun a => L.e2_G a K
theorem L.e2_eq (q_QueueState_Entries : (List L.yh)) (q_QueueState_Landed : (List Int)) (q_QueueState_Rejected : (List Int)) (q_window : Int) (e_Kind : Int) (e_Change : Int) (e_Priority : Int) (K : V → List Ob → Prop) : run L.pg L.Γ_e2 L.Δ_e2 (.node .leaf (.node .leaf (.node .leaf (.node (.node .leaf (.node .leaf (.node .leaf (.node .leaf (.node .leaf (.node .leaf (.cut .leaf L.e2_J1_d 110 L.e2_J1_F))))))) .leaf)))) .any Tryz.f15 [.rc [.ro L.T5 q_QueueState_Entries, .ro (.int .i64) q_QueueState_Landed, .ro (.int .i64) q_QueueState_Rejected, .xi q_window] 0, .agg [.xi e_Kind, .xi e_Change, .xi e_Priority]] K = L.e2_B q_QueueState_Entries q_QueueState_Landed q_QueueState_Rejected q_window e_Kind e_Change e_Priority (fun r0 => K (.xi r0) []) := by
  kernel_rfl
theorem L.e2_imp (vs : List V) (K : V → List Ob → Prop) : Imp (L.e2_G vs K) (run L.pg L.Γ_e2 L.Δ_e2 (.node .leaf (.node .leaf (.node .leaf (.node (.node .leaf (.node .leaf (.node .leaf (.node .leaf (.node .leaf (.node .leaf (.cut .leaf L.e2_J1_d 110 L.e2_J1_F))))))) .leaf)))) .any Tryz.f15 (mkL L.e2_ss 0 vs) K) :=
  Imp.of (Eq.trans (b := run L.pg L.Γ_e2 L.Δ_e2 (.node .leaf (.node .leaf (.node .leaf (.node (.node .leaf (.node .leaf (.node .leaf (.node .leaf (.node .leaf (.node .leaf (.cut .leaf L.e2_J1_d 110 L.e2_J1_F))))))) .leaf)))) .any Tryz.f15 [.rc [.ro L.T5 (gR L.T5 ((gC (gA vs 0)).getD 0 .any)), .ro (.int .i64) (gR (.int .i64) ((gC (gA vs 0)).getD 1 .any)), .ro (.int .i64) (gR (.int .i64) ((gC (gA vs 0)).getD 2 .any)), .xi (gI ((gC (gA vs 0)).getD 3 .any))] 0, .agg [.xi (gI ((gC (gA vs 1)).getD 0 .any)), .xi (gI ((gC (gA vs 1)).getD 1 .any)), .xi (gI ((gC (gA vs 1)).getD 2 .any))]] K) (by kernel_rfl) (L.e2_eq (gR L.T5 ((gC (gA vs 0)).getD 0 .any)) (gR (.int .i64) ((gC (gA vs 0)).getD 1 .any)) (gR (.int .i64) ((gC (gA vs 0)).getD 2 .any)) (gI ((gC (gA vs 0)).getD 3 .any)) (gI ((gC (gA vs 1)).getD 0 .any)) (gI ((gC (gA vs 1)).getD 1 .any)) (gI ((gC (gA vs 1)).getD 2 .any)) K)) fun h => (L.e2.out h)
theorem L.e2_ok : SoundFn L.pg 15 L.e2_S :=
  fn_ok (sem := run L.pg L.Γ_e2 L.Δ_e2 (.node .leaf (.node .leaf (.node .leaf (.node (.node .leaf (.node .leaf (.node .leaf (.node .leaf (.node .leaf (.node .leaf (.cut .leaf L.e2_J1_d 110 L.e2_J1_F))))))) .leaf)))) .any Tryz.f15) (ss := L.e2_ss) (G := L.e2_G) (run_ok L.Γ_e2_ok L.Δ_e2_ok Tryz.func15 (ann := (.node .leaf (.node .leaf (.node .leaf (.node (.node .leaf (.node .leaf (.node .leaf (.node .leaf (.node .leaf (.node .leaf (.cut .leaf L.e2_J1_d 110 L.e2_J1_F))))))) .leaf))))) ⟨(annOk_leaf _), ⟨(annOk_leaf _), ⟨(annOk_leaf _), ⟨⟨(annOk_leaf _), ⟨(annOk_leaf _), ⟨(annOk_leaf _), ⟨(annOk_leaf _), ⟨(annOk_leaf _), ⟨(annOk_leaf _), (cut_ok (ay := .leaf) (ss := L.e2_J1_ss) (os := L.e2_J1_os) (G := L.e2_J1_G) rfl (annOk_leaf _) (Nat.le_of_ble_eq_true rfl) (Nat.le_of_ble_eq_true rfl) (annOk_leaf _) L.e2_J1_ok)⟩⟩⟩⟩⟩⟩, (annOk_leaf _)⟩⟩⟩⟩) L.e2_imp
def L.Γ_f3 : Ctx := ctxC L.Γ_e2 15 L.e2_S
theorem L.Γ_f3_ok : SoundG L.pg L.Γ_f3 := ctxC_ok L.Γ_e2_ok L.e2_ok
def L.Δ_f3 : CtxO := L.Δ_e2
theorem L.Δ_f3_ok : SoundGO L.pg L.Δ_f3 := L.Δ_e2_ok
def L.f3_B (n : Int) (c : Int) (c1 : Int) (c2 : Bool) (c3 : Bool) (c4 : Bool) (K : Bool → Prop) : Prop :=
  K (n == c)
structure L.f3 (n : Int) (c : Int) (c1 : Int) (c2 : Bool) (c3 : Bool) (c4 : Bool) (K : Bool → Prop) : Prop where
  out : L.f3_B n c c1 c2 c3 c4 K
def L.f3_ss : List Sh := [.int .i64, .rc [.int .i64, .int .i64, .bool, .bool, .bool, .any] 0]
def L.f3_G (vs : List V) (K : V → List Ob → Prop) : Prop := L.f3 (gI (gA vs 0)) (gI ((gC (gA vs 1)).getD 0 .any)) (gI ((gC (gA vs 1)).getD 1 .any)) (gB ((gC (gA vs 1)).getD 2 .any)) (gB ((gC (gA vs 1)).getD 3 .any)) (gB ((gC (gA vs 1)).getD 4 .any)) (fun r0 => K (.x (.bool r0)) [])
def L.f3_S : SemF := fun args K => argF L.f3_ss args fun a => L.f3_G a K
theorem L.f3_eq (n : Int) (c : Int) (c1 : Int) (c2 : Bool) (c3 : Bool) (c4 : Bool) (K : V → List Ob → Prop) : run L.pg L.Γ_f3 L.Δ_f3 .leaf .any Tryz.f52 [.xi n, .rc [.xi c, .xi c1, .x (.bool c2), .x (.bool c3), .x (.bool c4), .any] 0] K = L.f3_B n c c1 c2 c3 c4 (fun r0 => K (.x (.bool r0)) []) := by
  kernel_rfl
theorem L.f3_imp (vs : List V) (K : V → List Ob → Prop) : Imp (L.f3_G vs K) (run L.pg L.Γ_f3 L.Δ_f3 .leaf .any Tryz.f52 (mkL L.f3_ss 0 vs) K) :=
  Imp.of (Eq.trans (b := run L.pg L.Γ_f3 L.Δ_f3 .leaf .any Tryz.f52 [.xi (gI (gA vs 0)), .rc [.xi (gI ((gC (gA vs 1)).getD 0 .any)), .xi (gI ((gC (gA vs 1)).getD 1 .any)), .x (.bool (gB ((gC (gA vs 1)).getD 2 .any))), .x (.bool (gB ((gC (gA vs 1)).getD 3 .any))), .x (.bool (gB ((gC (gA vs 1)).getD 4 .any))), .any] 0] K) (by kernel_rfl) (L.f3_eq (gI (gA vs 0)) (gI ((gC (gA vs 1)).getD 0 .any)) (gI ((gC (gA vs 1)).getD 1 .any)) (gB ((gC (gA vs 1)).getD 2 .any)) (gB ((gC (gA vs 1)).getD 3 .any)) (gB ((gC (gA vs 1)).getD 4 .any)) K)) fun h => (L.f3.out h)
theorem L.f3_ok : SoundFn L.pg 52 L.f3_S :=
  fn_ok (sem := run L.pg L.Γ_f3 L.Δ_f3 .leaf .any Tryz.f52) (ss := L.f3_ss) (G := L.f3_G) (run_ok L.Γ_f3_ok L.Δ_f3_ok Tryz.func52 (ann := .leaf) (annOk_leaf _)) L.f3_imp
def L.Γ_c7 : Ctx := ctxA L.Γ_f3 52 L.f3_ss L.f3_G
theorem L.Γ_c7_ok : SoundG L.pg L.Γ_c7 := ctxA_ok L.Γ_f3_ok L.f3_ok
def L.Δ_c7 : CtxO := L.Δ_f3
theorem L.Δ_c7_ok : SoundGO L.pg L.Δ_c7 := L.Δ_f3_ok
def L.c7_L1_b (s1 : (List Int)) (f5 : Int) (f6 : Int) (f7 : Bool) (f8 : Bool) (f9 : Bool) (v7 : Int) (v8 : Int) (self : Int → Prop) (Kx0 : Prop) (Kr : Int → Prop) : Prop :=
  (bif (decide (v8 < v7)) then (inB v8 s1.length) ∧ L.f3 (s1.getD v8.toNat 0) f5 f6 f7 f8 f9 (fun r => (bif r then Kr v8 else self (i64 (v8 + 1)))) else Kx0)
def L.c7_L1_R (s1 : (List Int)) (f5 : Int) (f6 : Int) (f7 : Bool) (f8 : Bool) (f9 : Bool) (v7 : Int) : Nat → Int → (Prop) → (Int → Prop) → Prop
  | 0, _, _, _ => False
  | fu + 1, v8, Kx0, Kr => L.c7_L1_b s1 f5 f6 f7 f8 f9 v7 v8 (fun v8 => L.c7_L1_R s1 f5 f6 f7 f8 f9 v7 fu v8 Kx0 Kr) Kx0 Kr
structure L.c7_L1 (s1 : (List Int)) (f5 : Int) (f6 : Int) (f7 : Bool) (f8 : Bool) (f9 : Bool) (v7 : Int) (v8 : Int) (Kx0 : Prop) (Kr : Int → Prop) : Prop where
  out : ∃ fu, L.c7_L1_R s1 f5 f6 f7 f8 f9 v7 fu v8 Kx0 Kr
def L.c7_L1_d : LoopD := { base := 0, vecs := [], flds := [], keep := [0, 1, 7, 8], out := [], rets := [4], rv := [], rbase := 0 }
def L.c7_L1_ss : List Sh := [.ro (.int .i64), .fn 52 [] [.rc [.int .i64, .int .i64, .bool, .bool, .bool, .any] 0], .int .i64, .int .i64]
def L.c7_L1_os : List OSh := []
def L.c7_L1_G (vs : List V) (st : List Ob) (K : Ex → St) : Prop := L.c7_L1 (gR (.int .i64) (gA vs 0)) (gI ((gC ((gFc (gA vs 1)).getD 0 .any)).getD 0 .any)) (gI ((gC ((gFc (gA vs 1)).getD 0 .any)).getD 1 .any)) (gB ((gC ((gFc (gA vs 1)).getD 0 .any)).getD 2 .any)) (gB ((gC ((gFc (gA vs 1)).getD 0 .any)).getD 3 .any)) (gB ((gC ((gFc (gA vs 1)).getD 0 .any)).getD 4 .any)) (gI (gA vs 2)) (gI (gA vs 3)) (K (.exit 0) (bld [] [] 0 19) []) (fun q0_ => K .ret (bld [4] [.xi q0_] 0 19) [])
def L.c7_L1_F (vs : List V) (st : List Ob) (K : Ex → St) : Prop := fitF L.c7_L1_ss L.c7_L1_os vs st (L.c7_L1_G vs st K)
theorem L.c7_L1_eq (s1 : (List Int)) (f5 : Int) (f6 : Int) (f7 : Bool) (f8 : Bool) (f9 : Bool) (v7 : Int) (K : Ex → St) : ∀ (fu : Nat) (v8 : Int), L.c7_L1_R s1 f5 f6 f7 f8 f9 v7 fu v8 (K (.exit 0) (bld [] [] 0 19) []) (fun q0_ => K .ret (bld [4] [.xi q0_] 0 19) []) = iterL (stepL (exec L.pg (CC L.pg L.Γ_c7 L.Δ_c7) (drawD L.pg L.Γ_c7 L.Δ_c7) .leaf (sub [true, false, true, false, false] (codeOf Tryz.f54))) 0 L.c7_L1_d K) fu (bld L.c7_L1_d.keep [.ro (.int .i64) s1, .fn (.func 52) [] [.rc [.xi f5, .xi f6, .x (.bool f7), .x (.bool f8), .x (.bool f9), .any] 0], .xi v7, .xi v8] 0 19) [] := by
  intro fu
  induction fu with
  | zero => intros; rfl
  | succ fu ih =>
    intro v8
    have e : (fun v8 => L.c7_L1_R s1 f5 f6 f7 f8 f9 v7 fu v8 (K (.exit 0) (bld [] [] 0 19) []) (fun q0_ => K .ret (bld [4] [.xi q0_] 0 19) [])) = fun v8 => iterL (stepL (exec L.pg (CC L.pg L.Γ_c7 L.Δ_c7) (drawD L.pg L.Γ_c7 L.Δ_c7) .leaf (sub [true, false, true, false, false] (codeOf Tryz.f54))) 0 L.c7_L1_d K) fu (bld L.c7_L1_d.keep [.ro (.int .i64) s1, .fn (.func 52) [] [.rc [.xi f5, .xi f6, .x (.bool f7), .x (.bool f8), .x (.bool f9), .any] 0], .xi v7, .xi v8] 0 19) [] := by
      funext v8; exact ih v8
    show L.c7_L1_b s1 f5 f6 f7 f8 f9 v7 v8 (fun v8 => L.c7_L1_R s1 f5 f6 f7 f8 f9 v7 fu v8 (K (.exit 0) (bld [] [] 0 19) []) (fun q0_ => K .ret (bld [4] [.xi q0_] 0 19) [])) (K (.exit 0) (bld [] [] 0 19) []) (fun q0_ => K .ret (bld [4] [.xi q0_] 0 19) []) = _
    rw [e]
    kernel_rfl
theorem L.c7_L1_imp (vs : List V) (st : List Ob) (K : Ex → St) (h : L.c7_L1_G vs st K) : ∃ fu, iterL (stepL (exec L.pg (CC L.pg L.Γ_c7 L.Δ_c7) (drawD L.pg L.Γ_c7 L.Δ_c7) .leaf (sub [true, false, true, false, false] (codeOf Tryz.f54))) 0 L.c7_L1_d K) fu (bld L.c7_L1_d.keep (mkL L.c7_L1_ss 0 vs) 0 19) (mkOs L.c7_L1_os 0 st) :=
  exMap (fun fu h => @Eq.mp _ _ (Eq.trans (L.c7_L1_eq (gR (.int .i64) (gA vs 0)) (gI ((gC ((gFc (gA vs 1)).getD 0 .any)).getD 0 .any)) (gI ((gC ((gFc (gA vs 1)).getD 0 .any)).getD 1 .any)) (gB ((gC ((gFc (gA vs 1)).getD 0 .any)).getD 2 .any)) (gB ((gC ((gFc (gA vs 1)).getD 0 .any)).getD 3 .any)) (gB ((gC ((gFc (gA vs 1)).getD 0 .any)).getD 4 .any)) (gI (gA vs 2)) K fu (gI (gA vs 3))) (by kernel_rfl)) h) (L.c7_L1.out h)
theorem L.c7_L1_ok : AnnOk L.pg (CC L.pg L.Γ_c7 L.Δ_c7) (drawD L.pg L.Γ_c7 L.Δ_c7) 0 (.lift L.c7_L1_d 19 L.c7_L1_F) (.loop (sub [true, false, true, false, false] (codeOf Tryz.f54))) :=
  lift_ok (an := .leaf) (ss := L.c7_L1_ss) (os := L.c7_L1_os) (G := L.c7_L1_G) rfl (Nat.le_of_ble_eq_true rfl) (annOk_leaf _) (L.c7_L1_imp)
def L.c7_B (s : (List Int)) (f : Int) (f1 : Int) (f2 : Bool) (f3 : Bool) (f4 : Bool) (K : Int → Prop) : Prop :=
  L.c7_L1 s f f1 f2 f3 f4 (s.length : Int) 0 (K (-1)) (fun r => K r)
structure L.c7 (s : (List Int)) (f : Int) (f1 : Int) (f2 : Bool) (f3 : Bool) (f4 : Bool) (K : Int → Prop) : Prop where
  out : L.c7_B s f f1 f2 f3 f4 K
def L.c7_ss : List Sh := [.ro (.int .i64), .fn 52 [] [.rc [.int .i64, .int .i64, .bool, .bool, .bool, .any] 0]]
def L.c7_G (vs : List V) (K : V → List Ob → Prop) : Prop := L.c7 (gR (.int .i64) (gA vs 0)) (gI ((gC ((gFc (gA vs 1)).getD 0 .any)).getD 0 .any)) (gI ((gC ((gFc (gA vs 1)).getD 0 .any)).getD 1 .any)) (gB ((gC ((gFc (gA vs 1)).getD 0 .any)).getD 2 .any)) (gB ((gC ((gFc (gA vs 1)).getD 0 .any)).getD 3 .any)) (gB ((gC ((gFc (gA vs 1)).getD 0 .any)).getD 4 .any)) (fun r0 => K (.xi r0) [])
def L.c7_S : SemF := fun args K => argF L.c7_ss args fun a => L.c7_G a K
theorem L.c7_eq (s : (List Int)) (f : Int) (f1 : Int) (f2 : Bool) (f3 : Bool) (f4 : Bool) (K : V → List Ob → Prop) : run L.pg L.Γ_c7 L.Δ_c7 (.node .leaf (.node (.node .leaf (.lift L.c7_L1_d 19 L.c7_L1_F)) .leaf)) .any Tryz.f54 [.ro (.int .i64) s, .fn (.func 52) [] [.rc [.xi f, .xi f1, .x (.bool f2), .x (.bool f3), .x (.bool f4), .any] 0]] K = L.c7_B s f f1 f2 f3 f4 (fun r0 => K (.xi r0) []) := by
  kernel_rfl
theorem L.c7_imp (vs : List V) (K : V → List Ob → Prop) : Imp (L.c7_G vs K) (run L.pg L.Γ_c7 L.Δ_c7 (.node .leaf (.node (.node .leaf (.lift L.c7_L1_d 19 L.c7_L1_F)) .leaf)) .any Tryz.f54 (mkL L.c7_ss 0 vs) K) :=
  Imp.of (Eq.trans (b := run L.pg L.Γ_c7 L.Δ_c7 (.node .leaf (.node (.node .leaf (.lift L.c7_L1_d 19 L.c7_L1_F)) .leaf)) .any Tryz.f54 [.ro (.int .i64) (gR (.int .i64) (gA vs 0)), .fn (.func 52) [] [.rc [.xi (gI ((gC ((gFc (gA vs 1)).getD 0 .any)).getD 0 .any)), .xi (gI ((gC ((gFc (gA vs 1)).getD 0 .any)).getD 1 .any)), .x (.bool (gB ((gC ((gFc (gA vs 1)).getD 0 .any)).getD 2 .any))), .x (.bool (gB ((gC ((gFc (gA vs 1)).getD 0 .any)).getD 3 .any))), .x (.bool (gB ((gC ((gFc (gA vs 1)).getD 0 .any)).getD 4 .any))), .any] 0]] K) (by kernel_rfl) (L.c7_eq (gR (.int .i64) (gA vs 0)) (gI ((gC ((gFc (gA vs 1)).getD 0 .any)).getD 0 .any)) (gI ((gC ((gFc (gA vs 1)).getD 0 .any)).getD 1 .any)) (gB ((gC ((gFc (gA vs 1)).getD 0 .any)).getD 2 .any)) (gB ((gC ((gFc (gA vs 1)).getD 0 .any)).getD 3 .any)) (gB ((gC ((gFc (gA vs 1)).getD 0 .any)).getD 4 .any)) K)) fun h => (L.c7.out h)
theorem L.c7_ok : SoundFn L.pg 54 L.c7_S :=
  fn_ok (sem := run L.pg L.Γ_c7 L.Δ_c7 (.node .leaf (.node (.node .leaf (.lift L.c7_L1_d 19 L.c7_L1_F)) .leaf)) .any Tryz.f54) (ss := L.c7_ss) (G := L.c7_G) (run_ok L.Γ_c7_ok L.Δ_c7_ok Tryz.func54 (ann := (.node .leaf (.node (.node .leaf (.lift L.c7_L1_d 19 L.c7_L1_F)) .leaf))) ⟨(annOk_leaf _), ⟨⟨(annOk_leaf _), L.c7_L1_ok⟩, (annOk_leaf _)⟩⟩) L.c7_imp
def L.Γ_b5 : Ctx := ctxA L.Γ_c7 54 L.c7_ss L.c7_G
theorem L.Γ_b5_ok : SoundG L.pg L.Γ_b5 := ctxA_ok L.Γ_c7_ok L.c7_ok
def L.Δ_b5 : CtxO := L.Δ_c7
theorem L.Δ_b5_ok : SoundGO L.pg L.Δ_b5 := L.Δ_c7_ok
def L.b5_L1_b (s1 : Hd) (m16 : Int) (m17 : Int) (m18 : Bool) (m19 : Bool) (m110 : Bool) (i_ : Int) (j : Int) (m01 : Pool) (self : Int → Int → Pool → Prop) (Kx0 : Int → Pool → Prop) : Prop :=
  (bif (decide (j < ((s1.n : Nat) : Int))) then (inB j s1.n ∧ Hd.ok m01 s1) ∧ (pok m01 s1.a j.toNat) ∧ L.f3 (pget m01 s1.a j.toNat) m16 m17 m18 m19 m110 (fun r1 => (bif (!r1) then (inB i_ s1.n ∧ Hd.ok m01 s1) ∧ (pok m01 s1.a i_.toNat) ∧ self (i64 (i_ + 1)) (i64 (j + 1)) (pwr m01 s1.a i_.toNat [(pget m01 s1.a j.toNat)]) else self i_ (i64 (j + 1)) m01)) else Kx0 i_ m01)
def L.b5_L1_R (s1 : Hd) (m16 : Int) (m17 : Int) (m18 : Bool) (m19 : Bool) (m110 : Bool) : Nat → Int → Int → Pool → (Int → Pool → Prop) → Prop
  | 0, _, _, _, _ => False
  | fu + 1, i_, j, m01, Kx0 => L.b5_L1_b s1 m16 m17 m18 m19 m110 i_ j m01 (fun i_ j m01 => L.b5_L1_R s1 m16 m17 m18 m19 m110 fu i_ j m01 Kx0) Kx0
structure L.b5_L1 (s1 : Hd) (m16 : Int) (m17 : Int) (m18 : Bool) (m19 : Bool) (m110 : Bool) (i_ : Int) (j : Int) (m01 : Pool) (Kx0 : Int → Pool → Prop) : Prop where
  out : ∃ fu, L.b5_L1_R s1 m16 m17 m18 m19 m110 fu i_ j m01 Kx0
def L.b5_L1_d : LoopD := { base := 2, vecs := [], flds := [], keep := [0, 1, 5, 6], out := [0, 5], rets := [4], rv := [], rbase := 2 }
def L.b5_L1_ss : List Sh := [.hd, .fn 52 [] [.cl 1 0], .int .i64, .int .i64]
def L.b5_L1_os : List OSh := [.pool, .cells [.int .i64, .int .i64, .bool, .bool, .bool, .hd]]
def L.b5_L1_G (vs : List V) (st : List Ob) (K : Ex → St) : Prop := L.b5_L1 (gH (gA vs 0)) (cI st 1 0) (cI st 1 1) (gB ((oC (gD st 1)).getD 2 .any)) (gB ((oC (gD st 1)).getD 3 .any)) (gB ((oC (gD st 1)).getD 4 .any)) (gI (gA vs 2)) (gI (gA vs 3)) (oM (gD st 0)) (fun q0_ q1_ => K (.exit 0) (bld [0, 5] [.hd (gH (gA vs 0)), .xi q0_] 0 42) [.pool q1_, .cells [.xi (cI st 1 0), .xi (cI st 1 1), .x (.bool (gB ((oC (gD st 1)).getD 2 .any))), .x (.bool (gB ((oC (gD st 1)).getD 3 .any))), .x (.bool (gB ((oC (gD st 1)).getD 4 .any))), .hd (gH ((oC (gD st 1)).getD 5 .any))]])
def L.b5_L1_F (vs : List V) (st : List Ob) (K : Ex → St) : Prop := fitF L.b5_L1_ss L.b5_L1_os vs st (L.b5_L1_G vs st K)
theorem L.b5_L1_eq (s1 : Hd) (m16 : Int) (m17 : Int) (m18 : Bool) (m19 : Bool) (m110 : Bool) (m111 : Hd) (K : Ex → St) : ∀ (fu : Nat) (i_ : Int) (j : Int) (m01 : Pool), L.b5_L1_R s1 m16 m17 m18 m19 m110 fu i_ j m01 (fun q0_ q1_ => K (.exit 0) (bld [0, 5] [.hd s1, .xi q0_] 0 42) [.pool q1_, .cells [.xi m16, .xi m17, .x (.bool m18), .x (.bool m19), .x (.bool m110), .hd m111]]) = iterL (stepL (exec L.pg (CC L.pg L.Γ_b5 L.Δ_b5) (drawD L.pg L.Γ_b5 L.Δ_b5) .leaf (sub [true, true, true, false, true, false, false] (codeOf Tryz.f51))) 2 L.b5_L1_d K) fu (bld L.b5_L1_d.keep [.hd s1, .fn (.func 52) [] [.cl 1 0], .xi i_, .xi j] 0 42) [.pool m01, .cells [.xi m16, .xi m17, .x (.bool m18), .x (.bool m19), .x (.bool m110), .hd m111]] := by
  intro fu
  induction fu with
  | zero => intros; rfl
  | succ fu ih =>
    intro i_ j m01
    have e : (fun i_ j m01 => L.b5_L1_R s1 m16 m17 m18 m19 m110 fu i_ j m01 (fun q0_ q1_ => K (.exit 0) (bld [0, 5] [.hd s1, .xi q0_] 0 42) [.pool q1_, .cells [.xi m16, .xi m17, .x (.bool m18), .x (.bool m19), .x (.bool m110), .hd m111]])) = fun i_ j m01 => iterL (stepL (exec L.pg (CC L.pg L.Γ_b5 L.Δ_b5) (drawD L.pg L.Γ_b5 L.Δ_b5) .leaf (sub [true, true, true, false, true, false, false] (codeOf Tryz.f51))) 2 L.b5_L1_d K) fu (bld L.b5_L1_d.keep [.hd s1, .fn (.func 52) [] [.cl 1 0], .xi i_, .xi j] 0 42) [.pool m01, .cells [.xi m16, .xi m17, .x (.bool m18), .x (.bool m19), .x (.bool m110), .hd m111]] := by
      funext i_ j m01; exact ih i_ j m01
    show L.b5_L1_b s1 m16 m17 m18 m19 m110 i_ j m01 (fun i_ j m01 => L.b5_L1_R s1 m16 m17 m18 m19 m110 fu i_ j m01 (fun q0_ q1_ => K (.exit 0) (bld [0, 5] [.hd s1, .xi q0_] 0 42) [.pool q1_, .cells [.xi m16, .xi m17, .x (.bool m18), .x (.bool m19), .x (.bool m110), .hd m111]])) (fun q0_ q1_ => K (.exit 0) (bld [0, 5] [.hd s1, .xi q0_] 0 42) [.pool q1_, .cells [.xi m16, .xi m17, .x (.bool m18), .x (.bool m19), .x (.bool m110), .hd m111]]) = _
    rw [e]
    kernel_rfl
theorem L.b5_L1_imp (vs : List V) (st : List Ob) (K : Ex → St) (h : L.b5_L1_G vs st K) : ∃ fu, iterL (stepL (exec L.pg (CC L.pg L.Γ_b5 L.Δ_b5) (drawD L.pg L.Γ_b5 L.Δ_b5) .leaf (sub [true, true, true, false, true, false, false] (codeOf Tryz.f51))) 2 L.b5_L1_d K) fu (bld L.b5_L1_d.keep (mkL L.b5_L1_ss 0 vs) 0 42) (mkOs L.b5_L1_os 0 st) :=
  exMap (fun fu h => @Eq.mp _ _ (Eq.trans (L.b5_L1_eq (gH (gA vs 0)) (cI st 1 0) (cI st 1 1) (gB ((oC (gD st 1)).getD 2 .any)) (gB ((oC (gD st 1)).getD 3 .any)) (gB ((oC (gD st 1)).getD 4 .any)) (gH ((oC (gD st 1)).getD 5 .any)) K fu (gI (gA vs 2)) (gI (gA vs 3)) (oM (gD st 0))) (by kernel_rfl)) h) (L.b5_L1.out h)
theorem L.b5_L1_ok : AnnOk L.pg (CC L.pg L.Γ_b5 L.Δ_b5) (drawD L.pg L.Γ_b5 L.Δ_b5) 2 (.lift L.b5_L1_d 42 L.b5_L1_F) (.loop (sub [true, true, true, false, true, false, false] (codeOf Tryz.f51))) :=
  lift_ok (an := .leaf) (ss := L.b5_L1_ss) (os := L.b5_L1_os) (G := L.b5_L1_G) rfl (Nat.le_of_ble_eq_true rfl) (annOk_leaf _) (L.b5_L1_imp)
def L.b5_B (s : Hd) (m0 : Pool) (m1 : Int) (m11 : Int) (m12 : Bool) (m13 : Bool) (m14 : Bool) (m15 : Hd) (K : Hd → Pool → Int → Int → Bool → Bool → Bool → Hd → Prop) : Prop :=
  (Hd.ok m0 s) ∧ L.c7 (Hd.get m0 s) m1 m11 m12 m13 m14 (fun r => (bif (r == (-1)) then K s m0 m1 m11 m12 m13 m14 m15 else L.b5_L1 s m1 m11 m12 m13 m14 r (i64 (r + 1)) m0 (fun i_ m => ((0 ≤ i_ ∧ i_ ≤ ((s.n : Nat) : Int)) ∧ s.n ≤ s.c) ∧ (Hd.ok m (Hd.cut s i_.toNat s.n)) ∧ ((0 ≤ i_ ∧ i_ ≤ ((s.n : Nat) : Int)) ∧ s.n ≤ s.c) ∧ K (Hd.cut s 0 i_.toNat) (pwr m ((Hd.cut s i_.toNat s.n).a) 0 (List.replicate ((Hd.cut s i_.toNat s.n).n) 0)) m1 m11 m12 m13 m14 m15)))
structure L.b5 (s : Hd) (m0 : Pool) (m1 : Int) (m11 : Int) (m12 : Bool) (m13 : Bool) (m14 : Bool) (m15 : Hd) (K : Hd → Pool → Int → Int → Bool → Bool → Bool → Hd → Prop) : Prop where
  out : L.b5_B s m0 m1 m11 m12 m13 m14 m15 K
def L.b5_ss : List Sh := [.hd, .fn 52 [] [.cl 1 0]]
def L.b5_os : List OSh := [.pool, .cells [.int .i64, .int .i64, .bool, .bool, .bool, .hd]]
def L.b5_G (vs : List V) (st : List Ob) (K : V → List Ob → Prop) : Prop := L.b5 (gH (gA vs 0)) (oM (gD st 0)) (cI st 1 0) (cI st 1 1) (gB ((oC (gD st 1)).getD 2 .any)) (gB ((oC (gD st 1)).getD 3 .any)) (gB ((oC (gD st 1)).getD 4 .any)) (gH ((oC (gD st 1)).getD 5 .any)) (fun r0 r1 r2 r3 r4 r5 r6 r7 => K (.hd r0) [.pool r1, .cells [.xi r2, .xi r3, .x (.bool r4), .x (.bool r5), .x (.bool r6), .hd r7]])
def L.b5_S : SemO := fun args st K => argO L.b5_ss L.b5_os args st fun a s => L.b5_G a s K
theorem L.b5_eq (s : Hd) (m0 : Pool) (m1 : Int) (m11 : Int) (m12 : Bool) (m13 : Bool) (m14 : Bool) (m15 : Hd) (K : V → List Ob → Prop) : runH L.pg L.Γ_b5 L.Δ_b5 (.node .leaf (.node .leaf (.node .leaf (.node (.node .leaf (.lift L.b5_L1_d 42 L.b5_L1_F)) .leaf)))) (.sl (.int .i64)) [] Tryz.f51 false 2 [.hd s, .fn (.func 52) [] [.cl 1 0]] [.pool m0, .cells [.xi m1, .xi m11, .x (.bool m12), .x (.bool m13), .x (.bool m14), .hd m15]] K = L.b5_B s m0 m1 m11 m12 m13 m14 m15 (fun r0 r1 r2 r3 r4 r5 r6 r7 => K (.hd r0) [.pool r1, .cells [.xi r2, .xi r3, .x (.bool r4), .x (.bool r5), .x (.bool r6), .hd r7]]) := by
  kernel_rfl
theorem L.b5_imp (vs : List V) (st : List Ob) (K : V → List Ob → Prop) : Imp (L.b5_G vs st K) (runH L.pg L.Γ_b5 L.Δ_b5 (.node .leaf (.node .leaf (.node .leaf (.node (.node .leaf (.lift L.b5_L1_d 42 L.b5_L1_F)) .leaf)))) (.sl (.int .i64)) [] Tryz.f51 false 2 (mkL L.b5_ss 0 vs) (mkOs L.b5_os 0 st) K) :=
  Imp.of (Eq.trans (b := runH L.pg L.Γ_b5 L.Δ_b5 (.node .leaf (.node .leaf (.node .leaf (.node (.node .leaf (.lift L.b5_L1_d 42 L.b5_L1_F)) .leaf)))) (.sl (.int .i64)) [] Tryz.f51 false 2 [.hd (gH (gA vs 0)), .fn (.func 52) [] [.cl 1 0]] [.pool (oM (gD st 0)), .cells [.xi (cI st 1 0), .xi (cI st 1 1), .x (.bool (gB ((oC (gD st 1)).getD 2 .any))), .x (.bool (gB ((oC (gD st 1)).getD 3 .any))), .x (.bool (gB ((oC (gD st 1)).getD 4 .any))), .hd (gH ((oC (gD st 1)).getD 5 .any))]] K) (by kernel_rfl) (L.b5_eq (gH (gA vs 0)) (oM (gD st 0)) (cI st 1 0) (cI st 1 1) (gB ((oC (gD st 1)).getD 2 .any)) (gB ((oC (gD st 1)).getD 3 .any)) (gB ((oC (gD st 1)).getD 4 .any)) (gH ((oC (gD st 1)).getD 5 .any)) K)) fun h => (L.b5.out h)
theorem L.b5_ok : SoundO L.pg 51 L.b5_S :=
  fnO_ok (sem := runH L.pg L.Γ_b5 L.Δ_b5 (.node .leaf (.node .leaf (.node .leaf (.node (.node .leaf (.lift L.b5_L1_d 42 L.b5_L1_F)) .leaf)))) (.sl (.int .i64)) [] Tryz.f51 false 2) (ss := L.b5_ss) (os := L.b5_os) (G := L.b5_G) (runH_ok L.Γ_b5_ok L.Δ_b5_ok Tryz.func51 (ann := (.node .leaf (.node .leaf (.node .leaf (.node (.node .leaf (.lift L.b5_L1_d 42 L.b5_L1_F)) .leaf))))) rfl ⟨(annOk_leaf _), ⟨(annOk_leaf _), ⟨(annOk_leaf _), ⟨⟨(annOk_leaf _), L.b5_L1_ok⟩, (annOk_leaf _)⟩⟩⟩⟩) L.b5_imp
def L.Γ_e7 : Ctx := L.Γ_b5
theorem L.Γ_e7_ok : SoundG L.pg L.Γ_e7 := L.Γ_b5_ok
def L.Δ_e7 : CtxO := ctxE L.Δ_b5 51 [.sl (.int .i64), .any] L.b5_ss L.b5_os L.b5_G
theorem L.Δ_e7_ok : SoundGO L.pg L.Δ_e7 := ctxE_ok L.Δ_b5_ok L.b5_ok
def L.e7_B (i_ : Int) (m0 : Pool) (q : Int) (m2 : L.yd) (m3 : (List Int)) (m4 : (List Int)) (K : Pool → Int → (List Int) → (List Int) → L.yd → Prop) : Prop :=
  (0 ≤ i_ ∧ i_ < (i64 (i_ + 1)) ∧ (i64 (i_ + 1)) ≤ (m2.length : Int) ∧ fits m2.length) ∧ K m0 q m3 m4 (m2.take i_.toNat ++ m2.drop (i64 (i_ + 1)).toNat)
structure L.e7 (i_ : Int) (m0 : Pool) (q : Int) (m2 : L.yd) (m3 : (List Int)) (m4 : (List Int)) (K : Pool → Int → (List Int) → (List Int) → L.yd → Prop) : Prop where
  out : L.e7_B i_ m0 q m2 m3 m4 K
def L.e7_ss : List Sh := [.cl 1 0, .int .i64]
def L.e7_os : List OSh := [.pool, .cells [.vec 2, .vec 3, .vec 4, .int .i64], .vec L.yb true, .vec (.int .i64) true, .vec (.int .i64) true]
def L.e7_G (vs : List V) (st : List Ob) (K : V → List Ob → Prop) : Prop := L.e7 (gI (gA vs 1)) (oM (gD st 0)) (cI st 1 3) (oX L.yb (gD st 2)) (oX (.int .i64) (gD st 3)) (oX (.int .i64) (gD st 4)) (fun r0 r1 r2 r3 r4 => K (.tup []) [.pool r0, .cells [.vec 5, .vec 3, .vec 4, .xi r1], .dead, .vec (.int .i64) 0 r2, .vec (.int .i64) 0 r3, .vec L.yb 0 r4])
def L.e7_S : SemO := fun args st K => argO L.e7_ss L.e7_os args st fun a s => L.e7_G a s K
theorem L.e7_eq (i_ : Int) (m0 : Pool) (q : Int) (m2 : L.yd) (m3 : (List Int)) (m4 : (List Int)) (K : V → List Ob → Prop) : runH L.pg L.Γ_e7 L.Δ_e7 .leaf (.tup []) [] Tryz.f30 false 5 [.cl 1 0, .xi i_] [.pool m0, .cells [.vec 2, .vec 3, .vec 4, .xi q], .vec L.yb 0 m2, .vec (.int .i64) 0 m3, .vec (.int .i64) 0 m4] K = L.e7_B i_ m0 q m2 m3 m4 (fun r0 r1 r2 r3 r4 => K (.tup []) [.pool r0, .cells [.vec 5, .vec 3, .vec 4, .xi r1], .dead, .vec (.int .i64) 0 r2, .vec (.int .i64) 0 r3, .vec L.yb 0 r4]) := by
  kernel_rfl
theorem L.e7_imp (vs : List V) (st : List Ob) (K : V → List Ob → Prop) : Imp (L.e7_G vs st K) (runH L.pg L.Γ_e7 L.Δ_e7 .leaf (.tup []) [] Tryz.f30 false 5 (mkL L.e7_ss 0 vs) (mkOs L.e7_os 0 st) K) :=
  Imp.of (Eq.trans (b := runH L.pg L.Γ_e7 L.Δ_e7 .leaf (.tup []) [] Tryz.f30 false 5 [.cl 1 0, .xi (gI (gA vs 1))] [.pool (oM (gD st 0)), .cells [.vec 2, .vec 3, .vec 4, .xi (cI st 1 3)], .vec L.yb 0 (oX L.yb (gD st 2)), .vec (.int .i64) 0 (oX (.int .i64) (gD st 3)), .vec (.int .i64) 0 (oX (.int .i64) (gD st 4))] K) (by kernel_rfl) (L.e7_eq (gI (gA vs 1)) (oM (gD st 0)) (cI st 1 3) (oX L.yb (gD st 2)) (oX (.int .i64) (gD st 3)) (oX (.int .i64) (gD st 4)) K)) fun h => (L.e7.out h)
theorem L.e7_ok : SoundO L.pg 30 L.e7_S :=
  fnO_ok (sem := runH L.pg L.Γ_e7 L.Δ_e7 .leaf (.tup []) [] Tryz.f30 false 5) (ss := L.e7_ss) (os := L.e7_os) (G := L.e7_G) (runH_ok L.Γ_e7_ok L.Δ_e7_ok Tryz.func30 (ann := .leaf) rfl (annOk_leaf _)) L.e7_imp
def L.Γ_b2 : Ctx := L.Γ_e7
theorem L.Γ_b2_ok : SoundG L.pg L.Γ_b2 := L.Γ_e7_ok
def L.Δ_b2 : CtxO := ctxE L.Δ_e7 30 [.any, .any] L.e7_ss L.e7_os L.e7_G
theorem L.Δ_b2_ok : SoundGO L.pg L.Δ_b2 := ctxE_ok L.Δ_e7_ok L.e7_ok
def L.b2_L1_b (from_1 : Int) (v13 : Int) (v14 : Int) (m21 : L.yd) (self : Int → L.yd → Prop) (Kx0 : L.yd → Prop) : Prop :=
  (bif (decide (v14 < v13)) then (inB (i64 (from_1 + v14)) m21.length) ∧ self (i64 (v14 + 1)) (m21.set ((i64 (from_1 + v14)).toNat) ((m21.getD ((i64 (from_1 + v14)).toNat) L.ya).1, ((m21.getD ((i64 (from_1 + v14)).toNat) L.ya).2.1, (false, (false, (false, Hd.nil)))))) else Kx0 m21)
def L.b2_L1_R (from_1 : Int) (v13 : Int) : Nat → Int → L.yd → (L.yd → Prop) → Prop
  | 0, _, _, _ => False
  | fu + 1, v14, m21, Kx0 => L.b2_L1_b from_1 v13 v14 m21 (fun v14 m21 => L.b2_L1_R from_1 v13 fu v14 m21 Kx0) Kx0
structure L.b2_L1 (from_1 : Int) (v13 : Int) (v14 : Int) (m21 : L.yd) (Kx0 : L.yd → Prop) : Prop where
  out : ∃ fu, L.b2_L1_R from_1 v13 fu v14 m21 Kx0
def L.b2_L1_d : LoopD := { base := 5, vecs := [], flds := [], keep := [0, 1, 13, 14], out := [], rets := [], rv := [], rbase := 5 }
def L.b2_L1_ss : List Sh := [.cl 1 0, .int .i64, .int .i64, .int .i64]
def L.b2_L1_os : List OSh := [.pool, .cells [.vec 2, .vec 3, .vec 4, .int .i64], .vec L.yb true, .vec (.int .i64) true, .vec (.int .i64) true]
def L.b2_L1_G (vs : List V) (st : List Ob) (K : Ex → St) : Prop := L.b2_L1 (gI (gA vs 1)) (gI (gA vs 2)) (gI (gA vs 3)) (oX L.yb (gD st 2)) (fun q0_ => K (.exit 0) (bld [] [] 0 38) [.pool (oM (gD st 0)), .cells [.vec 2, .vec 3, .vec 4, .xi (cI st 1 3)], .vec L.yb 0 q0_, .vec (.int .i64) 0 (oX (.int .i64) (gD st 3)), .vec (.int .i64) 0 (oX (.int .i64) (gD st 4))])
def L.b2_L1_F (vs : List V) (st : List Ob) (K : Ex → St) : Prop := fitF L.b2_L1_ss L.b2_L1_os vs st (L.b2_L1_G vs st K)
theorem L.b2_L1_eq (from_1 : Int) (v13 : Int) (m01 : Pool) (q1 : Int) (m31 : (List Int)) (m41 : (List Int)) (K : Ex → St) : ∀ (fu : Nat) (v14 : Int) (m21 : L.yd), L.b2_L1_R from_1 v13 fu v14 m21 (fun q0_ => K (.exit 0) (bld [] [] 0 38) [.pool m01, .cells [.vec 2, .vec 3, .vec 4, .xi q1], .vec L.yb 0 q0_, .vec (.int .i64) 0 m31, .vec (.int .i64) 0 m41]) = iterL (stepL (exec L.pg (CC L.pg L.Γ_b2 L.Δ_b2) (drawD L.pg L.Γ_b2 L.Δ_b2) .leaf (sub [true, false, false] (codeOf Tryz.f31))) 5 L.b2_L1_d K) fu (bld L.b2_L1_d.keep [.cl 1 0, .xi from_1, .xi v13, .xi v14] 0 38) [.pool m01, .cells [.vec 2, .vec 3, .vec 4, .xi q1], .vec L.yb 0 m21, .vec (.int .i64) 0 m31, .vec (.int .i64) 0 m41] := by
  intro fu
  induction fu with
  | zero => intros; rfl
  | succ fu ih =>
    intro v14 m21
    have e : (fun v14 m21 => L.b2_L1_R from_1 v13 fu v14 m21 (fun q0_ => K (.exit 0) (bld [] [] 0 38) [.pool m01, .cells [.vec 2, .vec 3, .vec 4, .xi q1], .vec L.yb 0 q0_, .vec (.int .i64) 0 m31, .vec (.int .i64) 0 m41])) = fun v14 m21 => iterL (stepL (exec L.pg (CC L.pg L.Γ_b2 L.Δ_b2) (drawD L.pg L.Γ_b2 L.Δ_b2) .leaf (sub [true, false, false] (codeOf Tryz.f31))) 5 L.b2_L1_d K) fu (bld L.b2_L1_d.keep [.cl 1 0, .xi from_1, .xi v13, .xi v14] 0 38) [.pool m01, .cells [.vec 2, .vec 3, .vec 4, .xi q1], .vec L.yb 0 m21, .vec (.int .i64) 0 m31, .vec (.int .i64) 0 m41] := by
      funext v14 m21; exact ih v14 m21
    show L.b2_L1_b from_1 v13 v14 m21 (fun v14 m21 => L.b2_L1_R from_1 v13 fu v14 m21 (fun q0_ => K (.exit 0) (bld [] [] 0 38) [.pool m01, .cells [.vec 2, .vec 3, .vec 4, .xi q1], .vec L.yb 0 q0_, .vec (.int .i64) 0 m31, .vec (.int .i64) 0 m41])) (fun q0_ => K (.exit 0) (bld [] [] 0 38) [.pool m01, .cells [.vec 2, .vec 3, .vec 4, .xi q1], .vec L.yb 0 q0_, .vec (.int .i64) 0 m31, .vec (.int .i64) 0 m41]) = _
    rw [e]
    kernel_rfl
theorem L.b2_L1_imp (vs : List V) (st : List Ob) (K : Ex → St) (h : L.b2_L1_G vs st K) : ∃ fu, iterL (stepL (exec L.pg (CC L.pg L.Γ_b2 L.Δ_b2) (drawD L.pg L.Γ_b2 L.Δ_b2) .leaf (sub [true, false, false] (codeOf Tryz.f31))) 5 L.b2_L1_d K) fu (bld L.b2_L1_d.keep (mkL L.b2_L1_ss 0 vs) 0 38) (mkOs L.b2_L1_os 0 st) :=
  exMap (fun fu h => @Eq.mp _ _ (Eq.trans (L.b2_L1_eq (gI (gA vs 1)) (gI (gA vs 2)) (oM (gD st 0)) (cI st 1 3) (oX (.int .i64) (gD st 3)) (oX (.int .i64) (gD st 4)) K fu (gI (gA vs 3)) (oX L.yb (gD st 2))) (by kernel_rfl)) h) (L.b2_L1.out h)
theorem L.b2_L1_ok : AnnOk L.pg (CC L.pg L.Γ_b2 L.Δ_b2) (drawD L.pg L.Γ_b2 L.Δ_b2) 5 (.lift L.b2_L1_d 38 L.b2_L1_F) (.loop (sub [true, false, false] (codeOf Tryz.f31))) :=
  lift_ok (an := .leaf) (ss := L.b2_L1_ss) (os := L.b2_L1_os) (G := L.b2_L1_G) rfl (Nat.le_of_ble_eq_true rfl) (annOk_leaf _) (L.b2_L1_imp)
def L.b2_B (from_ : Int) (m0 : Pool) (q : Int) (m2 : L.yd) (m3 : (List Int)) (m4 : (List Int)) (K : Pool → Int → L.yd → (List Int) → (List Int) → Prop) : Prop :=
  (0 ≤ from_ ∧ from_ ≤ m2.length) ∧ L.b2_L1 from_ (((m2.length - from_.toNat) : Nat) : Int) 0 m2 (fun m => K m0 q m m3 m4)
structure L.b2 (from_ : Int) (m0 : Pool) (q : Int) (m2 : L.yd) (m3 : (List Int)) (m4 : (List Int)) (K : Pool → Int → L.yd → (List Int) → (List Int) → Prop) : Prop where
  out : L.b2_B from_ m0 q m2 m3 m4 K
def L.b2_ss : List Sh := [.cl 1 0, .int .i64]
def L.b2_os : List OSh := [.pool, .cells [.vec 2, .vec 3, .vec 4, .int .i64], .vec L.yb true, .vec (.int .i64) true, .vec (.int .i64) true]
def L.b2_G (vs : List V) (st : List Ob) (K : V → List Ob → Prop) : Prop := L.b2 (gI (gA vs 1)) (oM (gD st 0)) (cI st 1 3) (oX L.yb (gD st 2)) (oX (.int .i64) (gD st 3)) (oX (.int .i64) (gD st 4)) (fun r0 r1 r2 r3 r4 => K (.tup []) [.pool r0, .cells [.vec 2, .vec 3, .vec 4, .xi r1], .vec L.yb 0 r2, .vec (.int .i64) 0 r3, .vec (.int .i64) 0 r4])
def L.b2_S : SemO := fun args st K => argO L.b2_ss L.b2_os args st fun a s => L.b2_G a s K
theorem L.b2_eq (from_ : Int) (m0 : Pool) (q : Int) (m2 : L.yd) (m3 : (List Int)) (m4 : (List Int)) (K : V → List Ob → Prop) : runH L.pg L.Γ_b2 L.Δ_b2 (.node .leaf (.lift L.b2_L1_d 38 L.b2_L1_F)) (.tup []) [] Tryz.f31 false 5 [.cl 1 0, .xi from_] [.pool m0, .cells [.vec 2, .vec 3, .vec 4, .xi q], .vec L.yb 0 m2, .vec (.int .i64) 0 m3, .vec (.int .i64) 0 m4] K = L.b2_B from_ m0 q m2 m3 m4 (fun r0 r1 r2 r3 r4 => K (.tup []) [.pool r0, .cells [.vec 2, .vec 3, .vec 4, .xi r1], .vec L.yb 0 r2, .vec (.int .i64) 0 r3, .vec (.int .i64) 0 r4]) := by
  kernel_rfl
theorem L.b2_imp (vs : List V) (st : List Ob) (K : V → List Ob → Prop) : Imp (L.b2_G vs st K) (runH L.pg L.Γ_b2 L.Δ_b2 (.node .leaf (.lift L.b2_L1_d 38 L.b2_L1_F)) (.tup []) [] Tryz.f31 false 5 (mkL L.b2_ss 0 vs) (mkOs L.b2_os 0 st) K) :=
  Imp.of (Eq.trans (b := runH L.pg L.Γ_b2 L.Δ_b2 (.node .leaf (.lift L.b2_L1_d 38 L.b2_L1_F)) (.tup []) [] Tryz.f31 false 5 [.cl 1 0, .xi (gI (gA vs 1))] [.pool (oM (gD st 0)), .cells [.vec 2, .vec 3, .vec 4, .xi (cI st 1 3)], .vec L.yb 0 (oX L.yb (gD st 2)), .vec (.int .i64) 0 (oX (.int .i64) (gD st 3)), .vec (.int .i64) 0 (oX (.int .i64) (gD st 4))] K) (by kernel_rfl) (L.b2_eq (gI (gA vs 1)) (oM (gD st 0)) (cI st 1 3) (oX L.yb (gD st 2)) (oX (.int .i64) (gD st 3)) (oX (.int .i64) (gD st 4)) K)) fun h => (L.b2.out h)
theorem L.b2_ok : SoundO L.pg 31 L.b2_S :=
  fnO_ok (sem := runH L.pg L.Γ_b2 L.Δ_b2 (.node .leaf (.lift L.b2_L1_d 38 L.b2_L1_F)) (.tup []) [] Tryz.f31 false 5) (ss := L.b2_ss) (os := L.b2_os) (G := L.b2_G) (runH_ok L.Γ_b2_ok L.Δ_b2_ok Tryz.func31 (ann := (.node .leaf (.lift L.b2_L1_d 38 L.b2_L1_F))) rfl ⟨(annOk_leaf _), L.b2_L1_ok⟩) L.b2_imp
def L.Γ_e3 : Ctx := L.Γ_b2
theorem L.Γ_e3_ok : SoundG L.pg L.Γ_e3 := L.Γ_b2_ok
def L.Δ_e3 : CtxO := ctxE L.Δ_b2 31 [.any, .any] L.b2_ss L.b2_os L.b2_G
theorem L.Δ_e3_ok : SoundGO L.pg L.Δ_e3 := ctxE_ok L.Δ_b2_ok L.b2_ok
def L.e3_B (s : (List Int)) (K : (List Int) → Prop) : Prop :=
  (∀ b : Bool, (s.length ≠ 0 → b = false) → (bif b then K ([] : List Int) else (fits (([] : List Int).length + s.length)) ∧ K (([] : List Int) ++ s)))
structure L.e3 (s : (List Int)) (K : (List Int) → Prop) : Prop where
  out : L.e3_B s K
def L.e3_ss : List Sh := [.ro (.int .i64)]
def L.e3_G (vs : List V) (K : V → List Ob → Prop) : Prop := L.e3 (gR (.int .i64) (gA vs 0)) (fun r0 => K (.vec 0) [.vec (.int .i64) 0 r0])
def L.e3_S : SemF := fun args K => argF L.e3_ss args fun a => L.e3_G a K
theorem L.e3_eq (s : (List Int)) (K : V → List Ob → Prop) : run L.pg L.Γ_e3 L.Δ_e3 .leaf (.sl (.int .i64)) Tryz.f12 [.ro (.int .i64) s] K = L.e3_B s (fun r0 => K (.vec 0) [.vec (.int .i64) 0 r0]) := by
  kernel_rfl
theorem L.e3_imp (vs : List V) (K : V → List Ob → Prop) : Imp (L.e3_G vs K) (run L.pg L.Γ_e3 L.Δ_e3 .leaf (.sl (.int .i64)) Tryz.f12 (mkL L.e3_ss 0 vs) K) :=
  Imp.of (Eq.trans (b := run L.pg L.Γ_e3 L.Δ_e3 .leaf (.sl (.int .i64)) Tryz.f12 [.ro (.int .i64) (gR (.int .i64) (gA vs 0))] K) (by kernel_rfl) (L.e3_eq (gR (.int .i64) (gA vs 0)) K)) fun h => (L.e3.out h)
theorem L.e3_ok : SoundFn L.pg 12 L.e3_S :=
  fn_ok (sem := run L.pg L.Γ_e3 L.Δ_e3 .leaf (.sl (.int .i64)) Tryz.f12) (ss := L.e3_ss) (G := L.e3_G) (run_ok L.Γ_e3_ok L.Δ_e3_ok Tryz.func12 (ann := .leaf) (annOk_leaf _)) L.e3_imp
def L.Γ_b4 : Ctx := ctxC L.Γ_e3 12 L.e3_S
theorem L.Γ_b4_ok : SoundG L.pg L.Γ_b4 := ctxC_ok L.Γ_e3_ok L.e3_ok
def L.Δ_b4 : CtxO := L.Δ_e3
theorem L.Δ_b4_ok : SoundGO L.pg L.Δ_b4 := L.Δ_e3_ok
def L.b4_L1_b (priority1 : Int) (v14 : Int) (m21 : L.yd) (k : Int) (v15 : Int) (self : Int → Int → Prop) (Kx0 : Int → Prop) : Prop :=
  (bif (decide (v15 < v14)) then (inB v15 m21.length) ∧ (bif (decide (((m21.getD v15.toNat L.ya).2.1) ≥ priority1)) then self (i64 (v15 + 1)) (i64 (v15 + 1)) else self k (i64 (v15 + 1))) else Kx0 k)
def L.b4_L1_R (priority1 : Int) (v14 : Int) (m21 : L.yd) : Nat → Int → Int → (Int → Prop) → Prop
  | 0, _, _, _ => False
  | fu + 1, k, v15, Kx0 => L.b4_L1_b priority1 v14 m21 k v15 (fun k v15 => L.b4_L1_R priority1 v14 m21 fu k v15 Kx0) Kx0
structure L.b4_L1 (priority1 : Int) (v14 : Int) (m21 : L.yd) (k : Int) (v15 : Int) (Kx0 : Int → Prop) : Prop where
  out : ∃ fu, L.b4_L1_R priority1 v14 m21 fu k v15 Kx0
def L.b4_L1_d : LoopD := { base := 5, vecs := [], flds := [], keep := [0, 1, 2, 6, 13, 14, 15], out := [0, 1, 2, 6], rets := [], rv := [], rbase := 5 }
def L.b4_L1_ss : List Sh := [.cl 1 0, .int .i64, .int .i64, .int .i64, .vec 2, .int .i64, .int .i64]
def L.b4_L1_os : List OSh := [.pool, .cells [.vec 2, .vec 3, .vec 4, .int .i64], .vec L.yb true, .vec (.int .i64) true, .vec (.int .i64) true]
def L.b4_L1_G (vs : List V) (st : List Ob) (K : Ex → St) : Prop := L.b4_L1 (gI (gA vs 2)) (gI (gA vs 5)) (oX L.yb (gD st 2)) (gI (gA vs 3)) (gI (gA vs 6)) (fun q0_ => K (.exit 0) (bld [0, 1, 2, 6] [.cl 1 0, .xi (gI (gA vs 1)), .xi (gI (gA vs 2)), .xi q0_] 0 46) [.pool (oM (gD st 0)), .cells [.vec 2, .vec 3, .vec 4, .xi (cI st 1 3)], .vec L.yb 0 (oX L.yb (gD st 2)), .vec (.int .i64) 0 (oX (.int .i64) (gD st 3)), .vec (.int .i64) 0 (oX (.int .i64) (gD st 4))])
def L.b4_L1_F (vs : List V) (st : List Ob) (K : Ex → St) : Prop := fitF L.b4_L1_ss L.b4_L1_os vs st (L.b4_L1_G vs st K)
theorem L.b4_L1_eq (change1 : Int) (priority1 : Int) (v14 : Int) (m01 : Pool) (q1 : Int) (m21 : L.yd) (m31 : (List Int)) (m41 : (List Int)) (K : Ex → St) : ∀ (fu : Nat) (k : Int) (v15 : Int), L.b4_L1_R priority1 v14 m21 fu k v15 (fun q0_ => K (.exit 0) (bld [0, 1, 2, 6] [.cl 1 0, .xi change1, .xi priority1, .xi q0_] 0 46) [.pool m01, .cells [.vec 2, .vec 3, .vec 4, .xi q1], .vec L.yb 0 m21, .vec (.int .i64) 0 m31, .vec (.int .i64) 0 m41]) = iterL (stepL (exec L.pg (CC L.pg L.Γ_b4 L.Δ_b4) (drawD L.pg L.Γ_b4 L.Δ_b4) .leaf (sub [true, false, true, false, false] (codeOf Tryz.f29))) 5 L.b4_L1_d K) fu (bld L.b4_L1_d.keep [.cl 1 0, .xi change1, .xi priority1, .xi k, .vec 2, .xi v14, .xi v15] 0 46) [.pool m01, .cells [.vec 2, .vec 3, .vec 4, .xi q1], .vec L.yb 0 m21, .vec (.int .i64) 0 m31, .vec (.int .i64) 0 m41] := by
  intro fu
  induction fu with
  | zero => intros; rfl
  | succ fu ih =>
    intro k v15
    have e : (fun k v15 => L.b4_L1_R priority1 v14 m21 fu k v15 (fun q0_ => K (.exit 0) (bld [0, 1, 2, 6] [.cl 1 0, .xi change1, .xi priority1, .xi q0_] 0 46) [.pool m01, .cells [.vec 2, .vec 3, .vec 4, .xi q1], .vec L.yb 0 m21, .vec (.int .i64) 0 m31, .vec (.int .i64) 0 m41])) = fun k v15 => iterL (stepL (exec L.pg (CC L.pg L.Γ_b4 L.Δ_b4) (drawD L.pg L.Γ_b4 L.Δ_b4) .leaf (sub [true, false, true, false, false] (codeOf Tryz.f29))) 5 L.b4_L1_d K) fu (bld L.b4_L1_d.keep [.cl 1 0, .xi change1, .xi priority1, .xi k, .vec 2, .xi v14, .xi v15] 0 46) [.pool m01, .cells [.vec 2, .vec 3, .vec 4, .xi q1], .vec L.yb 0 m21, .vec (.int .i64) 0 m31, .vec (.int .i64) 0 m41] := by
      funext k v15; exact ih k v15
    show L.b4_L1_b priority1 v14 m21 k v15 (fun k v15 => L.b4_L1_R priority1 v14 m21 fu k v15 (fun q0_ => K (.exit 0) (bld [0, 1, 2, 6] [.cl 1 0, .xi change1, .xi priority1, .xi q0_] 0 46) [.pool m01, .cells [.vec 2, .vec 3, .vec 4, .xi q1], .vec L.yb 0 m21, .vec (.int .i64) 0 m31, .vec (.int .i64) 0 m41])) (fun q0_ => K (.exit 0) (bld [0, 1, 2, 6] [.cl 1 0, .xi change1, .xi priority1, .xi q0_] 0 46) [.pool m01, .cells [.vec 2, .vec 3, .vec 4, .xi q1], .vec L.yb 0 m21, .vec (.int .i64) 0 m31, .vec (.int .i64) 0 m41]) = _
    rw [e]
    kernel_rfl
theorem L.b4_L1_imp (vs : List V) (st : List Ob) (K : Ex → St) (h : L.b4_L1_G vs st K) : ∃ fu, iterL (stepL (exec L.pg (CC L.pg L.Γ_b4 L.Δ_b4) (drawD L.pg L.Γ_b4 L.Δ_b4) .leaf (sub [true, false, true, false, false] (codeOf Tryz.f29))) 5 L.b4_L1_d K) fu (bld L.b4_L1_d.keep (mkL L.b4_L1_ss 0 vs) 0 46) (mkOs L.b4_L1_os 0 st) :=
  exMap (fun fu h => @Eq.mp _ _ (Eq.trans (L.b4_L1_eq (gI (gA vs 1)) (gI (gA vs 2)) (gI (gA vs 5)) (oM (gD st 0)) (cI st 1 3) (oX L.yb (gD st 2)) (oX (.int .i64) (gD st 3)) (oX (.int .i64) (gD st 4)) K fu (gI (gA vs 3)) (gI (gA vs 6))) (by kernel_rfl)) h) (L.b4_L1.out h)
theorem L.b4_L1_ok : AnnOk L.pg (CC L.pg L.Γ_b4 L.Δ_b4) (drawD L.pg L.Γ_b4 L.Δ_b4) 5 (.lift L.b4_L1_d 46 L.b4_L1_F) (.loop (sub [true, false, true, false, false] (codeOf Tryz.f29))) :=
  lift_ok (an := .leaf) (ss := L.b4_L1_ss) (os := L.b4_L1_os) (G := L.b4_L1_G) rfl (Nat.le_of_ble_eq_true rfl) (annOk_leaf _) (L.b4_L1_imp)
def L.b4_B (change : Int) (priority : Int) (m0 : Pool) (q : Int) (m2 : L.yd) (m3 : (List Int)) (m4 : (List Int)) (K : Pool → Int → (List Int) → (List Int) → L.yd → Prop) : Prop :=
  L.b4_L1 priority (m2.length : Int) m2 0 0 (fun k => (0 ≤ k ∧ k ≤ (m2.length : Int) ∧ ([(change, (priority, (false, (false, (false, Hd.nil)))))] : List (Int × (Int × (Bool × (Bool × (Bool × Hd)))))).length ≠ 0 ∧ fits (m2.length + ([(change, (priority, (false, (false, (false, Hd.nil)))))] : List (Int × (Int × (Bool × (Bool × (Bool × Hd)))))).length)) ∧ L.b2 (i64 (k + 1)) m0 q ((m2.take k.toNat ++ ([(change, (priority, (false, (false, (false, Hd.nil)))))] : List (Int × (Int × (Bool × (Bool × (Bool × Hd))))))) ++ m2.drop k.toNat) m3 m4 (fun m q1 m1 m5 m6 => K m q1 m5 m6 m1))
structure L.b4 (change : Int) (priority : Int) (m0 : Pool) (q : Int) (m2 : L.yd) (m3 : (List Int)) (m4 : (List Int)) (K : Pool → Int → (List Int) → (List Int) → L.yd → Prop) : Prop where
  out : L.b4_B change priority m0 q m2 m3 m4 K
def L.b4_ss : List Sh := [.cl 1 0, .int .i64, .int .i64]
def L.b4_os : List OSh := [.pool, .cells [.vec 2, .vec 3, .vec 4, .int .i64], .vec L.yb true, .vec (.int .i64) true, .vec (.int .i64) true]
def L.b4_G (vs : List V) (st : List Ob) (K : V → List Ob → Prop) : Prop := L.b4 (gI (gA vs 1)) (gI (gA vs 2)) (oM (gD st 0)) (cI st 1 3) (oX L.yb (gD st 2)) (oX (.int .i64) (gD st 3)) (oX (.int .i64) (gD st 4)) (fun r0 r1 r2 r3 r4 => K (.tup []) [.pool r0, .cells [.vec 5, .vec 3, .vec 4, .xi r1], .dead, .vec (.int .i64) 0 r2, .vec (.int .i64) 0 r3, .vec L.yb 0 r4])
def L.b4_S : SemO := fun args st K => argO L.b4_ss L.b4_os args st fun a s => L.b4_G a s K
theorem L.b4_eq (change : Int) (priority : Int) (m0 : Pool) (q : Int) (m2 : L.yd) (m3 : (List Int)) (m4 : (List Int)) (K : V → List Ob → Prop) : runH L.pg L.Γ_b4 L.Δ_b4 (.node .leaf (.node (.node .leaf (.lift L.b4_L1_d 46 L.b4_L1_F)) .leaf)) (.tup []) [] Tryz.f29 false 5 [.cl 1 0, .xi change, .xi priority] [.pool m0, .cells [.vec 2, .vec 3, .vec 4, .xi q], .vec L.yb 0 m2, .vec (.int .i64) 0 m3, .vec (.int .i64) 0 m4] K = L.b4_B change priority m0 q m2 m3 m4 (fun r0 r1 r2 r3 r4 => K (.tup []) [.pool r0, .cells [.vec 5, .vec 3, .vec 4, .xi r1], .dead, .vec (.int .i64) 0 r2, .vec (.int .i64) 0 r3, .vec L.yb 0 r4]) := by
  kernel_rfl
theorem L.b4_imp (vs : List V) (st : List Ob) (K : V → List Ob → Prop) : Imp (L.b4_G vs st K) (runH L.pg L.Γ_b4 L.Δ_b4 (.node .leaf (.node (.node .leaf (.lift L.b4_L1_d 46 L.b4_L1_F)) .leaf)) (.tup []) [] Tryz.f29 false 5 (mkL L.b4_ss 0 vs) (mkOs L.b4_os 0 st) K) :=
  Imp.of (Eq.trans (b := runH L.pg L.Γ_b4 L.Δ_b4 (.node .leaf (.node (.node .leaf (.lift L.b4_L1_d 46 L.b4_L1_F)) .leaf)) (.tup []) [] Tryz.f29 false 5 [.cl 1 0, .xi (gI (gA vs 1)), .xi (gI (gA vs 2))] [.pool (oM (gD st 0)), .cells [.vec 2, .vec 3, .vec 4, .xi (cI st 1 3)], .vec L.yb 0 (oX L.yb (gD st 2)), .vec (.int .i64) 0 (oX (.int .i64) (gD st 3)), .vec (.int .i64) 0 (oX (.int .i64) (gD st 4))] K) (by kernel_rfl) (L.b4_eq (gI (gA vs 1)) (gI (gA vs 2)) (oM (gD st 0)) (cI st 1 3) (oX L.yb (gD st 2)) (oX (.int .i64) (gD st 3)) (oX (.int .i64) (gD st 4)) K)) fun h => (L.b4.out h)
theorem L.b4_ok : SoundO L.pg 29 L.b4_S :=
  fnO_ok (sem := runH L.pg L.Γ_b4 L.Δ_b4 (.node .leaf (.node (.node .leaf (.lift L.b4_L1_d 46 L.b4_L1_F)) .leaf)) (.tup []) [] Tryz.f29 false 5) (ss := L.b4_ss) (os := L.b4_os) (G := L.b4_G) (runH_ok L.Γ_b4_ok L.Δ_b4_ok Tryz.func29 (ann := (.node .leaf (.node (.node .leaf (.lift L.b4_L1_d 46 L.b4_L1_F)) .leaf))) rfl ⟨(annOk_leaf _), ⟨⟨(annOk_leaf _), L.b4_L1_ok⟩, (annOk_leaf _)⟩⟩) L.b4_imp
def L.Γ_a0 : Ctx := L.Γ_b4
theorem L.Γ_a0_ok : SoundG L.pg L.Γ_a0 := L.Γ_b4_ok
def L.Δ_a0 : CtxO := ctxE L.Δ_b4 29 [.any, .any, .any] L.b4_ss L.b4_os L.b4_G
theorem L.Δ_a0_ok : SoundGO L.pg L.Δ_a0 := ctxE_ok L.Δ_b4_ok L.b4_ok
def L.a0_L2_b (v79 : Int) (v80 : Int) (m01 : Pool) (first : Int) (first1 : Int) (first2 : Bool) (first3 : Bool) (first4 : Bool) (first5 : Hd) (m91 : L.yd) (self : Int → Pool → Int → Int → Bool → Bool → Bool → Hd → L.yd → Prop) (Kx2 : Pool → Int → Int → Bool → Bool → Bool → Hd → L.yd → Prop) : Prop :=
  (bif (decide (v80 < v79)) then (inB v80 m91.length) ∧ L.b5 ((m91.getD v80.toNat L.ya).2.2.2.2.2) m01 first first1 first2 first3 first4 first5 (fun r1 m12 m13 m14 m15 m16 m17 m18 => self (i64 (v80 + 1)) m12 m13 m14 m15 m16 m17 m18 (m91.set v80.toNat ((m91.getD v80.toNat L.ya).1, ((m91.getD v80.toNat L.ya).2.1, ((m91.getD v80.toNat L.ya).2.2.1, ((m91.getD v80.toNat L.ya).2.2.2.1, ((m91.getD v80.toNat L.ya).2.2.2.2.1, r1))))))) else Kx2 m01 first first1 first2 first3 first4 first5 m91)
def L.a0_L2_R (v79 : Int) : Nat → Int → Pool → Int → Int → Bool → Bool → Bool → Hd → L.yd → (Pool → Int → Int → Bool → Bool → Bool → Hd → L.yd → Prop) → Prop
  | 0, _, _, _, _, _, _, _, _, _, _ => False
  | fu + 1, v80, m01, first, first1, first2, first3, first4, first5, m91, Kx2 => L.a0_L2_b v79 v80 m01 first first1 first2 first3 first4 first5 m91 (fun v80 m01 first first1 first2 first3 first4 first5 m91 => L.a0_L2_R v79 fu v80 m01 first first1 first2 first3 first4 first5 m91 Kx2) Kx2
structure L.a0_L2 (v79 : Int) (v80 : Int) (m01 : Pool) (first : Int) (first1 : Int) (first2 : Bool) (first3 : Bool) (first4 : Bool) (first5 : Hd) (m91 : L.yd) (Kx2 : Pool → Int → Int → Bool → Bool → Bool → Hd → L.yd → Prop) : Prop where
  out : ∃ fu, L.a0_L2_R v79 fu v80 m01 first first1 first2 first3 first4 first5 m91 Kx2
def L.a0_L2_d : LoopD := { base := 12, vecs := [], flds := [], keep := [0, 2, 79, 80], out := [0], rets := [], rv := [], rbase := 5 }
def L.a0_L2_ss : List Sh := [.cl 1 0, .cl 8 0, .int .i64, .int .i64]
def L.a0_L2_os : List OSh := [.pool, .cells [.vec 9, .vec 11, .vec 7, .int .i64], .dead, .dead, .dead, .dead, .dead, .vec (.int .i64) true, .cells [.int .i64, .int .i64, .bool, .bool, .bool, .hd], .vec L.yb true, .vec (.int .i64) true, .vec (.int .i64) true]
def L.a0_L2_G (vs : List V) (st : List Ob) (K : Ex → St) : Prop := L.a0_L2 (gI (gA vs 2)) (gI (gA vs 3)) (oM (gD st 0)) (cI st 8 0) (cI st 8 1) (gB ((oC (gD st 8)).getD 2 .any)) (gB ((oC (gD st 8)).getD 3 .any)) (gB ((oC (gD st 8)).getD 4 .any)) (gH ((oC (gD st 8)).getD 5 .any)) (oX L.yb (gD st 9)) (fun q0_ q1_ q2_ q3_ q4_ q5_ q6_ q7_ => K (.exit 2) (bld [0] [.cl 1 0] 0 156) [.pool q0_, .cells [.vec 9, .vec 11, .vec 7, .xi (cI st 1 3)], .dead, .dead, .dead, .dead, .dead, .vec (.int .i64) 0 (oX (.int .i64) (gD st 7)), .cells [.xi q1_, .xi q2_, .x (.bool q3_), .x (.bool q4_), .x (.bool q5_), .hd q6_], .vec L.yb 0 q7_, .vec (.int .i64) 0 (oX (.int .i64) (gD st 10)), .vec (.int .i64) 0 (oX (.int .i64) (gD st 11))])
def L.a0_L2_F (vs : List V) (st : List Ob) (K : Ex → St) : Prop := fitF L.a0_L2_ss L.a0_L2_os vs st (L.a0_L2_G vs st K)
theorem L.a0_L2_eq (v79 : Int) (q3 : Int) (m71 : (List Int)) (m10 : (List Int)) (m11 : (List Int)) (K : Ex → St) : ∀ (fu : Nat) (v80 : Int) (m01 : Pool) (first : Int) (first1 : Int) (first2 : Bool) (first3 : Bool) (first4 : Bool) (first5 : Hd) (m91 : L.yd), L.a0_L2_R v79 fu v80 m01 first first1 first2 first3 first4 first5 m91 (fun q0_ q1_ q2_ q3_ q4_ q5_ q6_ q7_ => K (.exit 2) (bld [0] [.cl 1 0] 0 156) [.pool q0_, .cells [.vec 9, .vec 11, .vec 7, .xi q3], .dead, .dead, .dead, .dead, .dead, .vec (.int .i64) 0 m71, .cells [.xi q1_, .xi q2_, .x (.bool q3_), .x (.bool q4_), .x (.bool q5_), .hd q6_], .vec L.yb 0 q7_, .vec (.int .i64) 0 m10, .vec (.int .i64) 0 m11]) = iterL (stepL (exec L.pg (CC L.pg L.Γ_a0 L.Δ_a0) (drawD L.pg L.Γ_a0 L.Δ_a0) .leaf (sub [false, false, false, true, false, true, true, true, true, true, false, false] (codeOf Tryz.f32))) 12 L.a0_L2_d K) fu (bld L.a0_L2_d.keep [.cl 1 0, .cl 8 0, .xi v79, .xi v80] 0 156) [.pool m01, .cells [.vec 9, .vec 11, .vec 7, .xi q3], .dead, .dead, .dead, .dead, .dead, .vec (.int .i64) 0 m71, .cells [.xi first, .xi first1, .x (.bool first2), .x (.bool first3), .x (.bool first4), .hd first5], .vec L.yb 0 m91, .vec (.int .i64) 0 m10, .vec (.int .i64) 0 m11] := by
  intro fu
  induction fu with
  | zero => intros; rfl
  | succ fu ih =>
    intro v80 m01 first first1 first2 first3 first4 first5 m91
    have e : (fun v80 m01 first first1 first2 first3 first4 first5 m91 => L.a0_L2_R v79 fu v80 m01 first first1 first2 first3 first4 first5 m91 (fun q0_ q1_ q2_ q3_ q4_ q5_ q6_ q7_ => K (.exit 2) (bld [0] [.cl 1 0] 0 156) [.pool q0_, .cells [.vec 9, .vec 11, .vec 7, .xi q3], .dead, .dead, .dead, .dead, .dead, .vec (.int .i64) 0 m71, .cells [.xi q1_, .xi q2_, .x (.bool q3_), .x (.bool q4_), .x (.bool q5_), .hd q6_], .vec L.yb 0 q7_, .vec (.int .i64) 0 m10, .vec (.int .i64) 0 m11])) = fun v80 m01 first first1 first2 first3 first4 first5 m91 => iterL (stepL (exec L.pg (CC L.pg L.Γ_a0 L.Δ_a0) (drawD L.pg L.Γ_a0 L.Δ_a0) .leaf (sub [false, false, false, true, false, true, true, true, true, true, false, false] (codeOf Tryz.f32))) 12 L.a0_L2_d K) fu (bld L.a0_L2_d.keep [.cl 1 0, .cl 8 0, .xi v79, .xi v80] 0 156) [.pool m01, .cells [.vec 9, .vec 11, .vec 7, .xi q3], .dead, .dead, .dead, .dead, .dead, .vec (.int .i64) 0 m71, .cells [.xi first, .xi first1, .x (.bool first2), .x (.bool first3), .x (.bool first4), .hd first5], .vec L.yb 0 m91, .vec (.int .i64) 0 m10, .vec (.int .i64) 0 m11] := by
      funext v80 m01 first first1 first2 first3 first4 first5 m91; exact ih v80 m01 first first1 first2 first3 first4 first5 m91
    show L.a0_L2_b v79 v80 m01 first first1 first2 first3 first4 first5 m91 (fun v80 m01 first first1 first2 first3 first4 first5 m91 => L.a0_L2_R v79 fu v80 m01 first first1 first2 first3 first4 first5 m91 (fun q0_ q1_ q2_ q3_ q4_ q5_ q6_ q7_ => K (.exit 2) (bld [0] [.cl 1 0] 0 156) [.pool q0_, .cells [.vec 9, .vec 11, .vec 7, .xi q3], .dead, .dead, .dead, .dead, .dead, .vec (.int .i64) 0 m71, .cells [.xi q1_, .xi q2_, .x (.bool q3_), .x (.bool q4_), .x (.bool q5_), .hd q6_], .vec L.yb 0 q7_, .vec (.int .i64) 0 m10, .vec (.int .i64) 0 m11])) (fun q0_ q1_ q2_ q3_ q4_ q5_ q6_ q7_ => K (.exit 2) (bld [0] [.cl 1 0] 0 156) [.pool q0_, .cells [.vec 9, .vec 11, .vec 7, .xi q3], .dead, .dead, .dead, .dead, .dead, .vec (.int .i64) 0 m71, .cells [.xi q1_, .xi q2_, .x (.bool q3_), .x (.bool q4_), .x (.bool q5_), .hd q6_], .vec L.yb 0 q7_, .vec (.int .i64) 0 m10, .vec (.int .i64) 0 m11]) = _
    rw [e]
    kernel_rfl
theorem L.a0_L2_imp (vs : List V) (st : List Ob) (K : Ex → St) (h : L.a0_L2_G vs st K) : ∃ fu, iterL (stepL (exec L.pg (CC L.pg L.Γ_a0 L.Δ_a0) (drawD L.pg L.Γ_a0 L.Δ_a0) .leaf (sub [false, false, false, true, false, true, true, true, true, true, false, false] (codeOf Tryz.f32))) 12 L.a0_L2_d K) fu (bld L.a0_L2_d.keep (mkL L.a0_L2_ss 0 vs) 0 156) (mkOs L.a0_L2_os 0 st) :=
  exMap (fun fu h => @Eq.mp _ _ (Eq.trans (L.a0_L2_eq (gI (gA vs 2)) (cI st 1 3) (oX (.int .i64) (gD st 7)) (oX (.int .i64) (gD st 10)) (oX (.int .i64) (gD st 11)) K fu (gI (gA vs 3)) (oM (gD st 0)) (cI st 8 0) (cI st 8 1) (gB ((oC (gD st 8)).getD 2 .any)) (gB ((oC (gD st 8)).getD 3 .any)) (gB ((oC (gD st 8)).getD 4 .any)) (gH ((oC (gD st 8)).getD 5 .any)) (oX L.yb (gD st 9))) (by kernel_rfl)) h) (L.a0_L2.out h)
theorem L.a0_L2_ok : AnnOk L.pg (CC L.pg L.Γ_a0 L.Δ_a0) (drawD L.pg L.Γ_a0 L.Δ_a0) 5 (.lift L.a0_L2_d 156 L.a0_L2_F) (.loop (sub [false, false, false, true, false, true, true, true, true, true, false, false] (codeOf Tryz.f32))) :=
  lift_ok (an := .leaf) (ss := L.a0_L2_ss) (os := L.a0_L2_os) (G := L.a0_L2_G) rfl (Nat.le_of_ble_eq_true rfl) (annOk_leaf _) (L.a0_L2_imp)
def L.a0_L3_b (m01 : Pool) (q1 : Int) (m5 : L.yd) (m6 : (List Int)) (m7 : (List Int)) (self : Pool → Int → L.yd → (List Int) → (List Int) → Prop) (Kx0 : Pool → Int → L.yd → (List Int) → (List Int) → Prop) : Prop :=
  ((((decide ((m5.length : Int) > 0)) == true) = true → inB 0 m5.length)) ∧ ((((decide ((m5.length : Int) > 0)) == true) = true → ((((m5.getD ((0 : Int).toNat) L.ya).2.2.2.1) == false) = true → inB 0 m5.length))) ∧ (bif (bif (decide ((m5.length : Int) > 0)) then (bif (m5.getD ((0 : Int).toNat) L.ya).2.2.2.1 then true else (m5.getD ((0 : Int).toNat) L.ya).2.2.2.2.1) else false) then (inB 0 m5.length) ∧ L.e7 0 m01 q1 m5 m6 m7 (fun m q2 m1 m8 r => (bif (m5.getD ((0 : Int).toNat) L.ya).2.2.2.2.1 then (fits (m8.length + ([(m5.getD ((0 : Int).toNat) L.ya).1] : List Int).length)) ∧ L.b2 0 m q2 r m1 (m8 ++ ([(m5.getD ((0 : Int).toNat) L.ya).1] : List Int)) (fun m9 q3 m10 m11 m12 => self m9 q3 m10 m11 m12) else (fits (m1.length + ([(m5.getD ((0 : Int).toNat) L.ya).1] : List Int).length)) ∧ L.a0_L2 (r.length : Int) 0 m ((m5.getD ((0 : Int).toNat) L.ya).1) ((m5.getD ((0 : Int).toNat) L.ya).2.1) ((m5.getD ((0 : Int).toNat) L.ya).2.2.1) ((m5.getD ((0 : Int).toNat) L.ya).2.2.2.1) ((m5.getD ((0 : Int).toNat) L.ya).2.2.2.2.1) ((m5.getD ((0 : Int).toNat) L.ya).2.2.2.2.2) r (fun m13 first first1 first2 first3 first4 first5 m14 => self m13 q2 m14 (m1 ++ ([(m5.getD ((0 : Int).toNat) L.ya).1] : List Int)) m8))) else Kx0 m01 q1 m5 m6 m7)
def L.a0_L3_R  : Nat → Pool → Int → L.yd → (List Int) → (List Int) → (Pool → Int → L.yd → (List Int) → (List Int) → Prop) → Prop
  | 0, _, _, _, _, _, _ => False
  | fu + 1, m01, q1, m5, m6, m7, Kx0 => L.a0_L3_b m01 q1 m5 m6 m7 (fun m01 q1 m5 m6 m7 => L.a0_L3_R fu m01 q1 m5 m6 m7 Kx0) Kx0
structure L.a0_L3 (m01 : Pool) (q1 : Int) (m5 : L.yd) (m6 : (List Int)) (m7 : (List Int)) (Kx0 : Pool → Int → L.yd → (List Int) → (List Int) → Prop) : Prop where
  out : ∃ fu, L.a0_L3_R fu m01 q1 m5 m6 m7 Kx0
def L.a0_L3_d : LoopD := { base := 5, vecs := [], flds := [(1, 0, .sl L.yb), (1, 1, .sl (.int .i64)), (1, 2, .sl (.int .i64))], keep := [0], out := [0], rets := [], rv := [], rbase := 5 }
def L.a0_L3_ss : List Sh := [.cl 1 0]
def L.a0_L3_os : List OSh := [.pool, .cells [.vec 5, .vec 6, .vec 7, .int .i64], .dead, .dead, .dead, .vec L.yb true, .vec (.int .i64) true, .vec (.int .i64) true]
def L.a0_L3_G (vs : List V) (st : List Ob) (K : Ex → St) : Prop := L.a0_L3 (oM (gD st 0)) (cI st 1 3) (oX L.yb (gD st 5)) (oX (.int .i64) (gD st 6)) (oX (.int .i64) (gD st 7)) (fun q0_ q1_ q2_ q3_ q4_ => K (.exit 0) (bld [0] [.cl 1 0] 0 156) [.pool q0_, .cells [.vec 5, .vec 6, .vec 7, .xi q1_], .dead, .dead, .dead, .vec L.yb 0 q2_, .vec (.int .i64) 0 q3_, .vec (.int .i64) 0 q4_])
def L.a0_L3_F (vs : List V) (st : List Ob) (K : Ex → St) : Prop := fitF L.a0_L3_ss L.a0_L3_os vs st (L.a0_L3_G vs st K)
theorem L.a0_L3_eq  (K : Ex → St) : ∀ (fu : Nat) (m01 : Pool) (q1 : Int) (m5 : L.yd) (m6 : (List Int)) (m7 : (List Int)), L.a0_L3_R fu m01 q1 m5 m6 m7 (fun q0_ q1_ q2_ q3_ q4_ => K (.exit 0) (bld [0] [.cl 1 0] 0 156) [.pool q0_, .cells [.vec 5, .vec 6, .vec 7, .xi q1_], .dead, .dead, .dead, .vec L.yb 0 q2_, .vec (.int .i64) 0 q3_, .vec (.int .i64) 0 q4_]) = iterL (stepL (exec L.pg (CC L.pg L.Γ_a0 L.Δ_a0) (drawD L.pg L.Γ_a0 L.Δ_a0) (.node .leaf (.node .leaf (.node .leaf (.node .leaf (.node .leaf (.node .leaf (.lift L.a0_L2_d 156 L.a0_L2_F))))))) (sub [false, false, false] (codeOf Tryz.f32))) 5 L.a0_L3_d K) fu (bld L.a0_L3_d.keep [.cl 1 0] 0 156) [.pool m01, .cells [.vec 5, .vec 6, .vec 7, .xi q1], .dead, .dead, .dead, .vec L.yb 0 m5, .vec (.int .i64) 0 m6, .vec (.int .i64) 0 m7] := by
  intro fu
  induction fu with
  | zero => intros; rfl
  | succ fu ih =>
    intro m01 q1 m5 m6 m7
    have e : (fun m01 q1 m5 m6 m7 => L.a0_L3_R fu m01 q1 m5 m6 m7 (fun q0_ q1_ q2_ q3_ q4_ => K (.exit 0) (bld [0] [.cl 1 0] 0 156) [.pool q0_, .cells [.vec 5, .vec 6, .vec 7, .xi q1_], .dead, .dead, .dead, .vec L.yb 0 q2_, .vec (.int .i64) 0 q3_, .vec (.int .i64) 0 q4_])) = fun m01 q1 m5 m6 m7 => iterL (stepL (exec L.pg (CC L.pg L.Γ_a0 L.Δ_a0) (drawD L.pg L.Γ_a0 L.Δ_a0) (.node .leaf (.node .leaf (.node .leaf (.node .leaf (.node .leaf (.node .leaf (.lift L.a0_L2_d 156 L.a0_L2_F))))))) (sub [false, false, false] (codeOf Tryz.f32))) 5 L.a0_L3_d K) fu (bld L.a0_L3_d.keep [.cl 1 0] 0 156) [.pool m01, .cells [.vec 5, .vec 6, .vec 7, .xi q1], .dead, .dead, .dead, .vec L.yb 0 m5, .vec (.int .i64) 0 m6, .vec (.int .i64) 0 m7] := by
      funext m01 q1 m5 m6 m7; exact ih m01 q1 m5 m6 m7
    show L.a0_L3_b m01 q1 m5 m6 m7 (fun m01 q1 m5 m6 m7 => L.a0_L3_R fu m01 q1 m5 m6 m7 (fun q0_ q1_ q2_ q3_ q4_ => K (.exit 0) (bld [0] [.cl 1 0] 0 156) [.pool q0_, .cells [.vec 5, .vec 6, .vec 7, .xi q1_], .dead, .dead, .dead, .vec L.yb 0 q2_, .vec (.int .i64) 0 q3_, .vec (.int .i64) 0 q4_])) (fun q0_ q1_ q2_ q3_ q4_ => K (.exit 0) (bld [0] [.cl 1 0] 0 156) [.pool q0_, .cells [.vec 5, .vec 6, .vec 7, .xi q1_], .dead, .dead, .dead, .vec L.yb 0 q2_, .vec (.int .i64) 0 q3_, .vec (.int .i64) 0 q4_]) = _
    rw [e]
    kernel_rfl
theorem L.a0_L3_imp (vs : List V) (st : List Ob) (K : Ex → St) (h : L.a0_L3_G vs st K) : ∃ fu, iterL (stepL (exec L.pg (CC L.pg L.Γ_a0 L.Δ_a0) (drawD L.pg L.Γ_a0 L.Δ_a0) (.node .leaf (.node .leaf (.node .leaf (.node .leaf (.node .leaf (.node .leaf (.lift L.a0_L2_d 156 L.a0_L2_F))))))) (sub [false, false, false] (codeOf Tryz.f32))) 5 L.a0_L3_d K) fu (bld L.a0_L3_d.keep (mkL L.a0_L3_ss 0 vs) 0 156) (mkOs L.a0_L3_os 0 st) :=
  exMap (fun fu h => @Eq.mp _ _ (Eq.trans (L.a0_L3_eq  K fu (oM (gD st 0)) (cI st 1 3) (oX L.yb (gD st 5)) (oX (.int .i64) (gD st 6)) (oX (.int .i64) (gD st 7))) (by kernel_rfl)) h) (L.a0_L3.out h)
theorem L.a0_L3_ok : AnnOk L.pg (CC L.pg L.Γ_a0 L.Δ_a0) (drawD L.pg L.Γ_a0 L.Δ_a0) 5 (.lift L.a0_L3_d 156 L.a0_L3_F) (.loop (sub [false, false, false] (codeOf Tryz.f32))) :=
  lift_ok (an := (.node .leaf (.node .leaf (.node .leaf (.node .leaf (.node .leaf (.node .leaf (.lift L.a0_L2_d 156 L.a0_L2_F)))))))) (ss := L.a0_L3_ss) (os := L.a0_L3_os) (G := L.a0_L3_G) rfl (Nat.le_of_ble_eq_true rfl) ⟨(annOk_leaf _), ⟨(annOk_leaf _), ⟨(annOk_leaf _), ⟨(annOk_leaf _), ⟨(annOk_leaf _), ⟨(annOk_leaf _), L.a0_L2_ok⟩⟩⟩⟩⟩⟩ (L.a0_L3_imp)
def L.a0_L4_b (v110 : Int) (v111 : Int) (m01 : Pool) (m51 : L.yd) (after : (List Int)) (self : Int → Pool → L.yd → (List Int) → Prop) (Kx4 : Pool → L.yd → Prop) : Prop :=
  (bif (decide (v111 < v110)) then (inB v111 m51.length) ∧ (bif (bif (bif (!((m51.getD v111.toNat L.ya).2.2.1)) then (!((m51.getD v111.toNat L.ya).2.2.2.1)) else false) then (!((m51.getD v111.toNat L.ya).2.2.2.2.1)) else false) then L.e3 after (fun r => (r = ([] : List Int) → (fits (after.length + ([(((m51.set v111.toNat ((m51.getD v111.toNat L.ya).1, ((m51.getD v111.toNat L.ya).2.1, (true, ((m51.getD v111.toNat L.ya).2.2.2.1, ((m51.getD v111.toNat L.ya).2.2.2.2.1, (m51.getD v111.toNat L.ya).2.2.2.2.2)))))).set v111.toNat (((m51.set v111.toNat ((m51.getD v111.toNat L.ya).1, ((m51.getD v111.toNat L.ya).2.1, (true, ((m51.getD v111.toNat L.ya).2.2.2.1, ((m51.getD v111.toNat L.ya).2.2.2.2.1, (m51.getD v111.toNat L.ya).2.2.2.2.2)))))).getD v111.toNat L.ya).1, (((m51.set v111.toNat ((m51.getD v111.toNat L.ya).1, ((m51.getD v111.toNat L.ya).2.1, (true, ((m51.getD v111.toNat L.ya).2.2.2.1, ((m51.getD v111.toNat L.ya).2.2.2.2.1, (m51.getD v111.toNat L.ya).2.2.2.2.2)))))).getD v111.toNat L.ya).2.1, (((m51.set v111.toNat ((m51.getD v111.toNat L.ya).1, ((m51.getD v111.toNat L.ya).2.1, (true, ((m51.getD v111.toNat L.ya).2.2.2.1, ((m51.getD v111.toNat L.ya).2.2.2.2.1, (m51.getD v111.toNat L.ya).2.2.2.2.2)))))).getD v111.toNat L.ya).2.2.1, (((m51.set v111.toNat ((m51.getD v111.toNat L.ya).1, ((m51.getD v111.toNat L.ya).2.1, (true, ((m51.getD v111.toNat L.ya).2.2.2.1, ((m51.getD v111.toNat L.ya).2.2.2.2.1, (m51.getD v111.toNat L.ya).2.2.2.2.2)))))).getD v111.toNat L.ya).2.2.2.1, (((m51.set v111.toNat ((m51.getD v111.toNat L.ya).1, ((m51.getD v111.toNat L.ya).2.1, (true, ((m51.getD v111.toNat L.ya).2.2.2.1, ((m51.getD v111.toNat L.ya).2.2.2.2.1, (m51.getD v111.toNat L.ya).2.2.2.2.2)))))).getD v111.toNat L.ya).2.2.2.2.1, Hd.nil)))))).getD v111.toNat L.ya).1] : List Int).length)) ∧ self (i64 (v111 + 1)) m01 ((m51.set v111.toNat ((m51.getD v111.toNat L.ya).1, ((m51.getD v111.toNat L.ya).2.1, (true, ((m51.getD v111.toNat L.ya).2.2.2.1, ((m51.getD v111.toNat L.ya).2.2.2.2.1, (m51.getD v111.toNat L.ya).2.2.2.2.2)))))).set v111.toNat (((m51.set v111.toNat ((m51.getD v111.toNat L.ya).1, ((m51.getD v111.toNat L.ya).2.1, (true, ((m51.getD v111.toNat L.ya).2.2.2.1, ((m51.getD v111.toNat L.ya).2.2.2.2.1, (m51.getD v111.toNat L.ya).2.2.2.2.2)))))).getD v111.toNat L.ya).1, (((m51.set v111.toNat ((m51.getD v111.toNat L.ya).1, ((m51.getD v111.toNat L.ya).2.1, (true, ((m51.getD v111.toNat L.ya).2.2.2.1, ((m51.getD v111.toNat L.ya).2.2.2.2.1, (m51.getD v111.toNat L.ya).2.2.2.2.2)))))).getD v111.toNat L.ya).2.1, (((m51.set v111.toNat ((m51.getD v111.toNat L.ya).1, ((m51.getD v111.toNat L.ya).2.1, (true, ((m51.getD v111.toNat L.ya).2.2.2.1, ((m51.getD v111.toNat L.ya).2.2.2.2.1, (m51.getD v111.toNat L.ya).2.2.2.2.2)))))).getD v111.toNat L.ya).2.2.1, (((m51.set v111.toNat ((m51.getD v111.toNat L.ya).1, ((m51.getD v111.toNat L.ya).2.1, (true, ((m51.getD v111.toNat L.ya).2.2.2.1, ((m51.getD v111.toNat L.ya).2.2.2.2.1, (m51.getD v111.toNat L.ya).2.2.2.2.2)))))).getD v111.toNat L.ya).2.2.2.1, (((m51.set v111.toNat ((m51.getD v111.toNat L.ya).1, ((m51.getD v111.toNat L.ya).2.1, (true, ((m51.getD v111.toNat L.ya).2.2.2.1, ((m51.getD v111.toNat L.ya).2.2.2.2.1, (m51.getD v111.toNat L.ya).2.2.2.2.2)))))).getD v111.toNat L.ya).2.2.2.2.1, Hd.nil)))))) (after ++ ([(((m51.set v111.toNat ((m51.getD v111.toNat L.ya).1, ((m51.getD v111.toNat L.ya).2.1, (true, ((m51.getD v111.toNat L.ya).2.2.2.1, ((m51.getD v111.toNat L.ya).2.2.2.2.1, (m51.getD v111.toNat L.ya).2.2.2.2.2)))))).set v111.toNat (((m51.set v111.toNat ((m51.getD v111.toNat L.ya).1, ((m51.getD v111.toNat L.ya).2.1, (true, ((m51.getD v111.toNat L.ya).2.2.2.1, ((m51.getD v111.toNat L.ya).2.2.2.2.1, (m51.getD v111.toNat L.ya).2.2.2.2.2)))))).getD v111.toNat L.ya).1, (((m51.set v111.toNat ((m51.getD v111.toNat L.ya).1, ((m51.getD v111.toNat L.ya).2.1, (true, ((m51.getD v111.toNat L.ya).2.2.2.1, ((m51.getD v111.toNat L.ya).2.2.2.2.1, (m51.getD v111.toNat L.ya).2.2.2.2.2)))))).getD v111.toNat L.ya).2.1, (((m51.set v111.toNat ((m51.getD v111.toNat L.ya).1, ((m51.getD v111.toNat L.ya).2.1, (true, ((m51.getD v111.toNat L.ya).2.2.2.1, ((m51.getD v111.toNat L.ya).2.2.2.2.1, (m51.getD v111.toNat L.ya).2.2.2.2.2)))))).getD v111.toNat L.ya).2.2.1, (((m51.set v111.toNat ((m51.getD v111.toNat L.ya).1, ((m51.getD v111.toNat L.ya).2.1, (true, ((m51.getD v111.toNat L.ya).2.2.2.1, ((m51.getD v111.toNat L.ya).2.2.2.2.1, (m51.getD v111.toNat L.ya).2.2.2.2.2)))))).getD v111.toNat L.ya).2.2.2.1, (((m51.set v111.toNat ((m51.getD v111.toNat L.ya).1, ((m51.getD v111.toNat L.ya).2.1, (true, ((m51.getD v111.toNat L.ya).2.2.2.1, ((m51.getD v111.toNat L.ya).2.2.2.2.1, (m51.getD v111.toNat L.ya).2.2.2.2.2)))))).getD v111.toNat L.ya).2.2.2.2.1, Hd.nil)))))).getD v111.toNat L.ya).1] : List Int))) ∧ (∀ b cap : Nat, pfind m01 b = none → r.length ≤ cap → (fits (after.length + ([(((m51.set v111.toNat ((m51.getD v111.toNat L.ya).1, ((m51.getD v111.toNat L.ya).2.1, (true, ((m51.getD v111.toNat L.ya).2.2.2.1, ((m51.getD v111.toNat L.ya).2.2.2.2.1, (m51.getD v111.toNat L.ya).2.2.2.2.2)))))).set v111.toNat (((m51.set v111.toNat ((m51.getD v111.toNat L.ya).1, ((m51.getD v111.toNat L.ya).2.1, (true, ((m51.getD v111.toNat L.ya).2.2.2.1, ((m51.getD v111.toNat L.ya).2.2.2.2.1, (m51.getD v111.toNat L.ya).2.2.2.2.2)))))).getD v111.toNat L.ya).1, (((m51.set v111.toNat ((m51.getD v111.toNat L.ya).1, ((m51.getD v111.toNat L.ya).2.1, (true, ((m51.getD v111.toNat L.ya).2.2.2.1, ((m51.getD v111.toNat L.ya).2.2.2.2.1, (m51.getD v111.toNat L.ya).2.2.2.2.2)))))).getD v111.toNat L.ya).2.1, (((m51.set v111.toNat ((m51.getD v111.toNat L.ya).1, ((m51.getD v111.toNat L.ya).2.1, (true, ((m51.getD v111.toNat L.ya).2.2.2.1, ((m51.getD v111.toNat L.ya).2.2.2.2.1, (m51.getD v111.toNat L.ya).2.2.2.2.2)))))).getD v111.toNat L.ya).2.2.1, (((m51.set v111.toNat ((m51.getD v111.toNat L.ya).1, ((m51.getD v111.toNat L.ya).2.1, (true, ((m51.getD v111.toNat L.ya).2.2.2.1, ((m51.getD v111.toNat L.ya).2.2.2.2.1, (m51.getD v111.toNat L.ya).2.2.2.2.2)))))).getD v111.toNat L.ya).2.2.2.1, (((m51.set v111.toNat ((m51.getD v111.toNat L.ya).1, ((m51.getD v111.toNat L.ya).2.1, (true, ((m51.getD v111.toNat L.ya).2.2.2.1, ((m51.getD v111.toNat L.ya).2.2.2.2.1, (m51.getD v111.toNat L.ya).2.2.2.2.2)))))).getD v111.toNat L.ya).2.2.2.2.1, (Hd.mk (some (Addr.mk b 0 none)) r.length cap))))))).getD v111.toNat L.ya).1] : List Int).length)) ∧ self (i64 (v111 + 1)) ((b, (r, cap)) :: m01) ((m51.set v111.toNat ((m51.getD v111.toNat L.ya).1, ((m51.getD v111.toNat L.ya).2.1, (true, ((m51.getD v111.toNat L.ya).2.2.2.1, ((m51.getD v111.toNat L.ya).2.2.2.2.1, (m51.getD v111.toNat L.ya).2.2.2.2.2)))))).set v111.toNat (((m51.set v111.toNat ((m51.getD v111.toNat L.ya).1, ((m51.getD v111.toNat L.ya).2.1, (true, ((m51.getD v111.toNat L.ya).2.2.2.1, ((m51.getD v111.toNat L.ya).2.2.2.2.1, (m51.getD v111.toNat L.ya).2.2.2.2.2)))))).getD v111.toNat L.ya).1, (((m51.set v111.toNat ((m51.getD v111.toNat L.ya).1, ((m51.getD v111.toNat L.ya).2.1, (true, ((m51.getD v111.toNat L.ya).2.2.2.1, ((m51.getD v111.toNat L.ya).2.2.2.2.1, (m51.getD v111.toNat L.ya).2.2.2.2.2)))))).getD v111.toNat L.ya).2.1, (((m51.set v111.toNat ((m51.getD v111.toNat L.ya).1, ((m51.getD v111.toNat L.ya).2.1, (true, ((m51.getD v111.toNat L.ya).2.2.2.1, ((m51.getD v111.toNat L.ya).2.2.2.2.1, (m51.getD v111.toNat L.ya).2.2.2.2.2)))))).getD v111.toNat L.ya).2.2.1, (((m51.set v111.toNat ((m51.getD v111.toNat L.ya).1, ((m51.getD v111.toNat L.ya).2.1, (true, ((m51.getD v111.toNat L.ya).2.2.2.1, ((m51.getD v111.toNat L.ya).2.2.2.2.1, (m51.getD v111.toNat L.ya).2.2.2.2.2)))))).getD v111.toNat L.ya).2.2.2.1, (((m51.set v111.toNat ((m51.getD v111.toNat L.ya).1, ((m51.getD v111.toNat L.ya).2.1, (true, ((m51.getD v111.toNat L.ya).2.2.2.1, ((m51.getD v111.toNat L.ya).2.2.2.2.1, (m51.getD v111.toNat L.ya).2.2.2.2.2)))))).getD v111.toNat L.ya).2.2.2.2.1, (Hd.mk (some (Addr.mk b 0 none)) r.length cap))))))) (after ++ ([(((m51.set v111.toNat ((m51.getD v111.toNat L.ya).1, ((m51.getD v111.toNat L.ya).2.1, (true, ((m51.getD v111.toNat L.ya).2.2.2.1, ((m51.getD v111.toNat L.ya).2.2.2.2.1, (m51.getD v111.toNat L.ya).2.2.2.2.2)))))).set v111.toNat (((m51.set v111.toNat ((m51.getD v111.toNat L.ya).1, ((m51.getD v111.toNat L.ya).2.1, (true, ((m51.getD v111.toNat L.ya).2.2.2.1, ((m51.getD v111.toNat L.ya).2.2.2.2.1, (m51.getD v111.toNat L.ya).2.2.2.2.2)))))).getD v111.toNat L.ya).1, (((m51.set v111.toNat ((m51.getD v111.toNat L.ya).1, ((m51.getD v111.toNat L.ya).2.1, (true, ((m51.getD v111.toNat L.ya).2.2.2.1, ((m51.getD v111.toNat L.ya).2.2.2.2.1, (m51.getD v111.toNat L.ya).2.2.2.2.2)))))).getD v111.toNat L.ya).2.1, (((m51.set v111.toNat ((m51.getD v111.toNat L.ya).1, ((m51.getD v111.toNat L.ya).2.1, (true, ((m51.getD v111.toNat L.ya).2.2.2.1, ((m51.getD v111.toNat L.ya).2.2.2.2.1, (m51.getD v111.toNat L.ya).2.2.2.2.2)))))).getD v111.toNat L.ya).2.2.1, (((m51.set v111.toNat ((m51.getD v111.toNat L.ya).1, ((m51.getD v111.toNat L.ya).2.1, (true, ((m51.getD v111.toNat L.ya).2.2.2.1, ((m51.getD v111.toNat L.ya).2.2.2.2.1, (m51.getD v111.toNat L.ya).2.2.2.2.2)))))).getD v111.toNat L.ya).2.2.2.1, (((m51.set v111.toNat ((m51.getD v111.toNat L.ya).1, ((m51.getD v111.toNat L.ya).2.1, (true, ((m51.getD v111.toNat L.ya).2.2.2.1, ((m51.getD v111.toNat L.ya).2.2.2.2.1, (m51.getD v111.toNat L.ya).2.2.2.2.2)))))).getD v111.toNat L.ya).2.2.2.2.1, (Hd.mk (some (Addr.mk b 0 none)) r.length cap))))))).getD v111.toNat L.ya).1] : List Int)))) else (fits (after.length + ([(m51.getD v111.toNat L.ya).1] : List Int).length)) ∧ self (i64 (v111 + 1)) m01 m51 (after ++ ([(m51.getD v111.toNat L.ya).1] : List Int))) else Kx4 m01 m51)
def L.a0_L4_R (v110 : Int) : Nat → Int → Pool → L.yd → (List Int) → (Pool → L.yd → Prop) → Prop
  | 0, _, _, _, _, _ => False
  | fu + 1, v111, m01, m51, after, Kx4 => L.a0_L4_b v110 v111 m01 m51 after (fun v111 m01 m51 after => L.a0_L4_R v110 fu v111 m01 m51 after Kx4) Kx4
structure L.a0_L4 (v110 : Int) (v111 : Int) (m01 : Pool) (m51 : L.yd) (after : (List Int)) (Kx4 : Pool → L.yd → Prop) : Prop where
  out : ∃ fu, L.a0_L4_R v110 fu v111 m01 m51 after Kx4
def L.a0_L4_d : LoopD := { base := 8, vecs := [(5, .sl (.int .i64))], flds := [], keep := [0, 5, 110, 111], out := [], rets := [], rv := [], rbase := 5 }
def L.a0_L4_ss : List Sh := [.cl 1 0, .vec 8, .int .i64, .int .i64]
def L.a0_L4_os : List OSh := [.pool, .cells [.vec 5, .vec 6, .vec 7, .int .i64], .dead, .dead, .dead, .vec L.yb true, .vec (.int .i64) true, .vec (.int .i64) true, .vec (.int .i64) true]
def L.a0_L4_G (vs : List V) (st : List Ob) (K : Ex → St) : Prop := L.a0_L4 (gI (gA vs 2)) (gI (gA vs 3)) (oM (gD st 0)) (oX L.yb (gD st 5)) (oX (.int .i64) (gD st 8)) (fun q0_ q1_ => K (.exit 4) (bld [] [] 0 156) [.pool q0_, .cells [.vec 5, .vec 6, .vec 7, .xi (cI st 1 3)], .dead, .dead, .dead, .vec L.yb 0 q1_, .vec (.int .i64) 0 (oX (.int .i64) (gD st 6)), .vec (.int .i64) 0 (oX (.int .i64) (gD st 7))])
def L.a0_L4_F (vs : List V) (st : List Ob) (K : Ex → St) : Prop := fitF L.a0_L4_ss L.a0_L4_os vs st (L.a0_L4_G vs st K)
theorem L.a0_L4_eq (v110 : Int) (q2 : Int) (m61 : (List Int)) (m7 : (List Int)) (K : Ex → St) : ∀ (fu : Nat) (v111 : Int) (m01 : Pool) (m51 : L.yd) (after : (List Int)), L.a0_L4_R v110 fu v111 m01 m51 after (fun q0_ q1_ => K (.exit 4) (bld [] [] 0 156) [.pool q0_, .cells [.vec 5, .vec 6, .vec 7, .xi q2], .dead, .dead, .dead, .vec L.yb 0 q1_, .vec (.int .i64) 0 m61, .vec (.int .i64) 0 m7]) = iterL (stepL (exec L.pg (CC L.pg L.Γ_a0 L.Δ_a0) (drawD L.pg L.Γ_a0 L.Δ_a0) .leaf (sub [true, true, true, false, false] (codeOf Tryz.f32))) 8 L.a0_L4_d K) fu (bld L.a0_L4_d.keep [.cl 1 0, .vec 8, .xi v110, .xi v111] 0 156) [.pool m01, .cells [.vec 5, .vec 6, .vec 7, .xi q2], .dead, .dead, .dead, .vec L.yb 0 m51, .vec (.int .i64) 0 m61, .vec (.int .i64) 0 m7, .vec (.int .i64) 0 after] := by
  intro fu
  induction fu with
  | zero => intros; rfl
  | succ fu ih =>
    intro v111 m01 m51 after
    have e : (fun v111 m01 m51 after => L.a0_L4_R v110 fu v111 m01 m51 after (fun q0_ q1_ => K (.exit 4) (bld [] [] 0 156) [.pool q0_, .cells [.vec 5, .vec 6, .vec 7, .xi q2], .dead, .dead, .dead, .vec L.yb 0 q1_, .vec (.int .i64) 0 m61, .vec (.int .i64) 0 m7])) = fun v111 m01 m51 after => iterL (stepL (exec L.pg (CC L.pg L.Γ_a0 L.Δ_a0) (drawD L.pg L.Γ_a0 L.Δ_a0) .leaf (sub [true, true, true, false, false] (codeOf Tryz.f32))) 8 L.a0_L4_d K) fu (bld L.a0_L4_d.keep [.cl 1 0, .vec 8, .xi v110, .xi v111] 0 156) [.pool m01, .cells [.vec 5, .vec 6, .vec 7, .xi q2], .dead, .dead, .dead, .vec L.yb 0 m51, .vec (.int .i64) 0 m61, .vec (.int .i64) 0 m7, .vec (.int .i64) 0 after] := by
      funext v111 m01 m51 after; exact ih v111 m01 m51 after
    show L.a0_L4_b v110 v111 m01 m51 after (fun v111 m01 m51 after => L.a0_L4_R v110 fu v111 m01 m51 after (fun q0_ q1_ => K (.exit 4) (bld [] [] 0 156) [.pool q0_, .cells [.vec 5, .vec 6, .vec 7, .xi q2], .dead, .dead, .dead, .vec L.yb 0 q1_, .vec (.int .i64) 0 m61, .vec (.int .i64) 0 m7])) (fun q0_ q1_ => K (.exit 4) (bld [] [] 0 156) [.pool q0_, .cells [.vec 5, .vec 6, .vec 7, .xi q2], .dead, .dead, .dead, .vec L.yb 0 q1_, .vec (.int .i64) 0 m61, .vec (.int .i64) 0 m7]) = _
    rw [e]
    kernel_rfl
theorem L.a0_L4_imp (vs : List V) (st : List Ob) (K : Ex → St) (h : L.a0_L4_G vs st K) : ∃ fu, iterL (stepL (exec L.pg (CC L.pg L.Γ_a0 L.Δ_a0) (drawD L.pg L.Γ_a0 L.Δ_a0) .leaf (sub [true, true, true, false, false] (codeOf Tryz.f32))) 8 L.a0_L4_d K) fu (bld L.a0_L4_d.keep (mkL L.a0_L4_ss 0 vs) 0 156) (mkOs L.a0_L4_os 0 st) :=
  exMap (fun fu h => @Eq.mp _ _ (Eq.trans (L.a0_L4_eq (gI (gA vs 2)) (cI st 1 3) (oX (.int .i64) (gD st 6)) (oX (.int .i64) (gD st 7)) K fu (gI (gA vs 3)) (oM (gD st 0)) (oX L.yb (gD st 5)) (oX (.int .i64) (gD st 8))) (by kernel_rfl)) h) (L.a0_L4.out h)
theorem L.a0_L4_ok : AnnOk L.pg (CC L.pg L.Γ_a0 L.Δ_a0) (drawD L.pg L.Γ_a0 L.Δ_a0) 5 (.lift L.a0_L4_d 156 L.a0_L4_F) (.loop (sub [true, true, true, false, false] (codeOf Tryz.f32))) :=
  lift_ok (an := .leaf) (ss := L.a0_L4_ss) (os := L.a0_L4_os) (G := L.a0_L4_G) rfl (Nat.le_of_ble_eq_true rfl) (annOk_leaf _) (L.a0_L4_imp)
def L.a0_B (m0 : Pool) (q : Int) (m2 : L.yd) (m3 : (List Int)) (m4 : (List Int)) (K : Pool → Int → L.yd → (List Int) → (List Int) → Prop) : Prop :=
  L.a0_L3 m0 q m2 m3 m4 (fun m q1 m1 m5 m6 => L.a0_L4 (amn q1 (m1.length : Int)) 0 m m1 ([] : List Int) (fun m7 m8 => K m7 q1 m8 m5 m6))
structure L.a0 (m0 : Pool) (q : Int) (m2 : L.yd) (m3 : (List Int)) (m4 : (List Int)) (K : Pool → Int → L.yd → (List Int) → (List Int) → Prop) : Prop where
  out : L.a0_B m0 q m2 m3 m4 K
def L.a0_ss : List Sh := [.cl 1 0]
def L.a0_os : List OSh := [.pool, .cells [.vec 2, .vec 3, .vec 4, .int .i64], .vec L.yb true, .vec (.int .i64) true, .vec (.int .i64) true]
def L.a0_G (vs : List V) (st : List Ob) (K : V → List Ob → Prop) : Prop := L.a0 (oM (gD st 0)) (cI st 1 3) (oX L.yb (gD st 2)) (oX (.int .i64) (gD st 3)) (oX (.int .i64) (gD st 4)) (fun r0 r1 r2 r3 r4 => K (.tup []) [.pool r0, .cells [.vec 5, .vec 6, .vec 7, .xi r1], .dead, .dead, .dead, .vec L.yb 0 r2, .vec (.int .i64) 0 r3, .vec (.int .i64) 0 r4])
def L.a0_S : SemO := fun args st K => argO L.a0_ss L.a0_os args st fun a s => L.a0_G a s K
theorem L.a0_eq (m0 : Pool) (q : Int) (m2 : L.yd) (m3 : (List Int)) (m4 : (List Int)) (K : V → List Ob → Prop) : runH L.pg L.Γ_a0 L.Δ_a0 (.node (.lift L.a0_L3_d 156 L.a0_L3_F) (.node .leaf (.node .leaf (.lift L.a0_L4_d 156 L.a0_L4_F)))) (.tup []) [] Tryz.f32 false 5 [.cl 1 0] [.pool m0, .cells [.vec 2, .vec 3, .vec 4, .xi q], .vec L.yb 0 m2, .vec (.int .i64) 0 m3, .vec (.int .i64) 0 m4] K = L.a0_B m0 q m2 m3 m4 (fun r0 r1 r2 r3 r4 => K (.tup []) [.pool r0, .cells [.vec 5, .vec 6, .vec 7, .xi r1], .dead, .dead, .dead, .vec L.yb 0 r2, .vec (.int .i64) 0 r3, .vec (.int .i64) 0 r4]) := by
  kernel_rfl
theorem L.a0_imp (vs : List V) (st : List Ob) (K : V → List Ob → Prop) : Imp (L.a0_G vs st K) (runH L.pg L.Γ_a0 L.Δ_a0 (.node (.lift L.a0_L3_d 156 L.a0_L3_F) (.node .leaf (.node .leaf (.lift L.a0_L4_d 156 L.a0_L4_F)))) (.tup []) [] Tryz.f32 false 5 (mkL L.a0_ss 0 vs) (mkOs L.a0_os 0 st) K) :=
  Imp.of (Eq.trans (b := runH L.pg L.Γ_a0 L.Δ_a0 (.node (.lift L.a0_L3_d 156 L.a0_L3_F) (.node .leaf (.node .leaf (.lift L.a0_L4_d 156 L.a0_L4_F)))) (.tup []) [] Tryz.f32 false 5 [.cl 1 0] [.pool (oM (gD st 0)), .cells [.vec 2, .vec 3, .vec 4, .xi (cI st 1 3)], .vec L.yb 0 (oX L.yb (gD st 2)), .vec (.int .i64) 0 (oX (.int .i64) (gD st 3)), .vec (.int .i64) 0 (oX (.int .i64) (gD st 4))] K) (by kernel_rfl) (L.a0_eq (oM (gD st 0)) (cI st 1 3) (oX L.yb (gD st 2)) (oX (.int .i64) (gD st 3)) (oX (.int .i64) (gD st 4)) K)) fun h => (L.a0.out h)
theorem L.a0_ok : SoundO L.pg 32 L.a0_S :=
  fnO_ok (sem := runH L.pg L.Γ_a0 L.Δ_a0 (.node (.lift L.a0_L3_d 156 L.a0_L3_F) (.node .leaf (.node .leaf (.lift L.a0_L4_d 156 L.a0_L4_F)))) (.tup []) [] Tryz.f32 false 5) (ss := L.a0_ss) (os := L.a0_os) (G := L.a0_G) (runH_ok L.Γ_a0_ok L.Δ_a0_ok Tryz.func32 (ann := (.node (.lift L.a0_L3_d 156 L.a0_L3_F) (.node .leaf (.node .leaf (.lift L.a0_L4_d 156 L.a0_L4_F))))) rfl ⟨L.a0_L3_ok, ⟨(annOk_leaf _), ⟨(annOk_leaf _), L.a0_L4_ok⟩⟩⟩) L.a0_imp
def L.Γ_e0 : Ctx := L.Γ_a0
theorem L.Γ_e0_ok : SoundG L.pg L.Γ_e0 := L.Γ_a0_ok
def L.Δ_e0 : CtxO := ctxE L.Δ_a0 32 [.any] L.a0_ss L.a0_os L.a0_G
theorem L.Δ_e0_ok : SoundGO L.pg L.Δ_e0 := ctxE_ok L.Δ_a0_ok L.a0_ok
def L.e0_J1_B (m01 : Pool) (q1 : Int) (m6 : L.yd) (m7 : (List Int)) (m8 : (List Int)) (Kn : Pool → Int → L.yd → (List Int) → (List Int) → Prop) : Prop :=
  L.a0 m01 q1 m6 m7 m8 (fun m q2 r1 r2 r3 => Kn m q2 r1 r2 r3)
structure L.e0_J1 (m01 : Pool) (q1 : Int) (m6 : L.yd) (m7 : (List Int)) (m8 : (List Int)) (Kn : Pool → Int → L.yd → (List Int) → (List Int) → Prop) : Prop where
  out : L.e0_J1_B m01 q1 m6 m7 m8 Kn
def L.e0_J1_d : CutD := { base := 6, vecs := [], flds := [(1, 0, .sl L.yb), (1, 1, .sl (.int .i64)), (1, 2, .sl (.int .i64))], keep := [0], out := [], rets := [], ovecs := [], oflds := [], rv := [], rbase := 5 }
def L.e0_J1_ss : List Sh := [.cl 1 0]
def L.e0_J1_os : List OSh := [.pool, .cells [.vec 6, .vec 7, .vec 8, .int .i64], .dead, .dead, .dead, .cells [.int .i64, .int .i64, .int .i64], .vec L.yb true, .vec (.int .i64) true, .vec (.int .i64) true]
def L.e0_J1_G (vs : List V) (st : List Ob) (K : Ex → St) : Prop := L.e0_J1 (oM (gD st 0)) (cI st 1 3) (oX L.yb (gD st 6)) (oX (.int .i64) (gD st 7)) (oX (.int .i64) (gD st 8)) (fun q0_ q1_ q2_ q3_ q4_ => K .normal (bld [] [] 0 52) [.pool q0_, .cells [.vec 6, .vec 7, .vec 8, .xi q1_], .dead, .dead, .dead, .cells [.xi (cI st 5 0), .xi (cI st 5 1), .xi (cI st 5 2)], .vec L.yb 0 q2_, .vec (.int .i64) 0 q3_, .vec (.int .i64) 0 q4_])
def L.e0_J1_F (vs : List V) (st : List Ob) (K : Ex → St) : Prop := fitF L.e0_J1_ss L.e0_J1_os vs st (L.e0_J1_G vs st K)
theorem L.e0_J1_eq (m01 : Pool) (q1 : Int) (m5 : Int) (m51 : Int) (m52 : Int) (m6 : L.yd) (m7 : (List Int)) (m8 : (List Int)) (K : Ex → St) : L.e0_J1_B m01 q1 m6 m7 m8 (fun q0_ q1_ q2_ q3_ q4_ => K .normal (bld [] [] 0 52) [.pool q0_, .cells [.vec 6, .vec 7, .vec 8, .xi q1_], .dead, .dead, .dead, .cells [.xi m5, .xi m51, .xi m52], .vec L.yb 0 q2_, .vec (.int .i64) 0 q3_, .vec (.int .i64) 0 q4_]) = exec L.pg (CC L.pg L.Γ_e0 L.Δ_e0) (drawD L.pg L.Γ_e0 L.Δ_e0) .leaf (sub [true, true, true] (codeOf Tryz.f16)) (bld L.e0_J1_d.keep [.cl 1 0] 0 52) [.pool m01, .cells [.vec 6, .vec 7, .vec 8, .xi q1], .dead, .dead, .dead, .cells [.xi m5, .xi m51, .xi m52], .vec L.yb 0 m6, .vec (.int .i64) 0 m7, .vec (.int .i64) 0 m8] (cutK L.e0_J1_d K) := by
  kernel_rfl
theorem L.e0_J1_ok (vs : List V) (st : List Ob) (K : Ex → St) : Imp (L.e0_J1_G vs st K) (exec L.pg (CC L.pg L.Γ_e0 L.Δ_e0) (drawD L.pg L.Γ_e0 L.Δ_e0) .leaf (sub [true, true, true] (codeOf Tryz.f16)) (bld L.e0_J1_d.keep (mkL L.e0_J1_ss 0 vs) 0 52) (mkOs L.e0_J1_os 0 st) (cutK L.e0_J1_d K)) :=
  Imp.of (Eq.trans (b := exec L.pg (CC L.pg L.Γ_e0 L.Δ_e0) (drawD L.pg L.Γ_e0 L.Δ_e0) .leaf (sub [true, true, true] (codeOf Tryz.f16)) (bld L.e0_J1_d.keep [.cl 1 0] 0 52) [.pool (oM (gD st 0)), .cells [.vec 6, .vec 7, .vec 8, .xi (cI st 1 3)], .dead, .dead, .dead, .cells [.xi (cI st 5 0), .xi (cI st 5 1), .xi (cI st 5 2)], .vec L.yb 0 (oX L.yb (gD st 6)), .vec (.int .i64) 0 (oX (.int .i64) (gD st 7)), .vec (.int .i64) 0 (oX (.int .i64) (gD st 8))] (cutK L.e0_J1_d K)) (by kernel_rfl) (Eq.symm (L.e0_J1_eq (oM (gD st 0)) (cI st 1 3) (cI st 5 0) (cI st 5 1) (cI st 5 2) (oX L.yb (gD st 6)) (oX (.int .i64) (gD st 7)) (oX (.int .i64) (gD st 8)) K))) fun h => (L.e0_J1.out h)
def L.e0_B (e : Int) (e1 : Int) (e2 : Int) (m0 : Pool) (q : Int) (m2 : L.yd) (m3 : (List Int)) (m4 : (List Int)) (K : Pool → Int → L.yd → (List Int) → (List Int) → Prop) : Prop :=
  (okRows m0 L.yb m2) ∧ L.e4 (List.map (fz m0 L.yb) m2) m3 m4 q e1 (fun r => (bif (e == 1) then L.b4 e1 e2 m0 q m2 m3 m4 (fun m q1 m1 m5 r1 => L.e0_J1 m q1 r1 m1 m5 K) else (bif (e == 2) then L.e7 r m0 q m2 m3 m4 (fun m7 q2 m8 m9 r1 => L.b2 r m7 q2 r1 m8 m9 (fun m10 q3 m11 m12 m13 => L.e0_J1 m10 q3 m11 m12 m13 K)) else (inB r m2.length) ∧ (L.e0_J1 m0 q (((m2.set r.toNat ((m2.getD r.toNat L.ya).1, ((m2.getD r.toNat L.ya).2.1, (false, ((m2.getD r.toNat L.ya).2.2.2.1, ((m2.getD r.toNat L.ya).2.2.2.2.1, (m2.getD r.toNat L.ya).2.2.2.2.2)))))).set r.toNat (((m2.set r.toNat ((m2.getD r.toNat L.ya).1, ((m2.getD r.toNat L.ya).2.1, (false, ((m2.getD r.toNat L.ya).2.2.2.1, ((m2.getD r.toNat L.ya).2.2.2.2.1, (m2.getD r.toNat L.ya).2.2.2.2.2)))))).getD r.toNat L.ya).1, (((m2.set r.toNat ((m2.getD r.toNat L.ya).1, ((m2.getD r.toNat L.ya).2.1, (false, ((m2.getD r.toNat L.ya).2.2.2.1, ((m2.getD r.toNat L.ya).2.2.2.2.1, (m2.getD r.toNat L.ya).2.2.2.2.2)))))).getD r.toNat L.ya).2.1, (((m2.set r.toNat ((m2.getD r.toNat L.ya).1, ((m2.getD r.toNat L.ya).2.1, (false, ((m2.getD r.toNat L.ya).2.2.2.1, ((m2.getD r.toNat L.ya).2.2.2.2.1, (m2.getD r.toNat L.ya).2.2.2.2.2)))))).getD r.toNat L.ya).2.2.1, ((e == 3), (((m2.set r.toNat ((m2.getD r.toNat L.ya).1, ((m2.getD r.toNat L.ya).2.1, (false, ((m2.getD r.toNat L.ya).2.2.2.1, ((m2.getD r.toNat L.ya).2.2.2.2.1, (m2.getD r.toNat L.ya).2.2.2.2.2)))))).getD r.toNat L.ya).2.2.2.2.1, ((m2.set r.toNat ((m2.getD r.toNat L.ya).1, ((m2.getD r.toNat L.ya).2.1, (false, ((m2.getD r.toNat L.ya).2.2.2.1, ((m2.getD r.toNat L.ya).2.2.2.2.1, (m2.getD r.toNat L.ya).2.2.2.2.2)))))).getD r.toNat L.ya).2.2.2.2.2)))))).set r.toNat ((((m2.set r.toNat ((m2.getD r.toNat L.ya).1, ((m2.getD r.toNat L.ya).2.1, (false, ((m2.getD r.toNat L.ya).2.2.2.1, ((m2.getD r.toNat L.ya).2.2.2.2.1, (m2.getD r.toNat L.ya).2.2.2.2.2)))))).set r.toNat (((m2.set r.toNat ((m2.getD r.toNat L.ya).1, ((m2.getD r.toNat L.ya).2.1, (false, ((m2.getD r.toNat L.ya).2.2.2.1, ((m2.getD r.toNat L.ya).2.2.2.2.1, (m2.getD r.toNat L.ya).2.2.2.2.2)))))).getD r.toNat L.ya).1, (((m2.set r.toNat ((m2.getD r.toNat L.ya).1, ((m2.getD r.toNat L.ya).2.1, (false, ((m2.getD r.toNat L.ya).2.2.2.1, ((m2.getD r.toNat L.ya).2.2.2.2.1, (m2.getD r.toNat L.ya).2.2.2.2.2)))))).getD r.toNat L.ya).2.1, (((m2.set r.toNat ((m2.getD r.toNat L.ya).1, ((m2.getD r.toNat L.ya).2.1, (false, ((m2.getD r.toNat L.ya).2.2.2.1, ((m2.getD r.toNat L.ya).2.2.2.2.1, (m2.getD r.toNat L.ya).2.2.2.2.2)))))).getD r.toNat L.ya).2.2.1, ((e == 3), (((m2.set r.toNat ((m2.getD r.toNat L.ya).1, ((m2.getD r.toNat L.ya).2.1, (false, ((m2.getD r.toNat L.ya).2.2.2.1, ((m2.getD r.toNat L.ya).2.2.2.2.1, (m2.getD r.toNat L.ya).2.2.2.2.2)))))).getD r.toNat L.ya).2.2.2.2.1, ((m2.set r.toNat ((m2.getD r.toNat L.ya).1, ((m2.getD r.toNat L.ya).2.1, (false, ((m2.getD r.toNat L.ya).2.2.2.1, ((m2.getD r.toNat L.ya).2.2.2.2.1, (m2.getD r.toNat L.ya).2.2.2.2.2)))))).getD r.toNat L.ya).2.2.2.2.2)))))).getD r.toNat L.ya).1, ((((m2.set r.toNat ((m2.getD r.toNat L.ya).1, ((m2.getD r.toNat L.ya).2.1, (false, ((m2.getD r.toNat L.ya).2.2.2.1, ((m2.getD r.toNat L.ya).2.2.2.2.1, (m2.getD r.toNat L.ya).2.2.2.2.2)))))).set r.toNat (((m2.set r.toNat ((m2.getD r.toNat L.ya).1, ((m2.getD r.toNat L.ya).2.1, (false, ((m2.getD r.toNat L.ya).2.2.2.1, ((m2.getD r.toNat L.ya).2.2.2.2.1, (m2.getD r.toNat L.ya).2.2.2.2.2)))))).getD r.toNat L.ya).1, (((m2.set r.toNat ((m2.getD r.toNat L.ya).1, ((m2.getD r.toNat L.ya).2.1, (false, ((m2.getD r.toNat L.ya).2.2.2.1, ((m2.getD r.toNat L.ya).2.2.2.2.1, (m2.getD r.toNat L.ya).2.2.2.2.2)))))).getD r.toNat L.ya).2.1, (((m2.set r.toNat ((m2.getD r.toNat L.ya).1, ((m2.getD r.toNat L.ya).2.1, (false, ((m2.getD r.toNat L.ya).2.2.2.1, ((m2.getD r.toNat L.ya).2.2.2.2.1, (m2.getD r.toNat L.ya).2.2.2.2.2)))))).getD r.toNat L.ya).2.2.1, ((e == 3), (((m2.set r.toNat ((m2.getD r.toNat L.ya).1, ((m2.getD r.toNat L.ya).2.1, (false, ((m2.getD r.toNat L.ya).2.2.2.1, ((m2.getD r.toNat L.ya).2.2.2.2.1, (m2.getD r.toNat L.ya).2.2.2.2.2)))))).getD r.toNat L.ya).2.2.2.2.1, ((m2.set r.toNat ((m2.getD r.toNat L.ya).1, ((m2.getD r.toNat L.ya).2.1, (false, ((m2.getD r.toNat L.ya).2.2.2.1, ((m2.getD r.toNat L.ya).2.2.2.2.1, (m2.getD r.toNat L.ya).2.2.2.2.2)))))).getD r.toNat L.ya).2.2.2.2.2)))))).getD r.toNat L.ya).2.1, ((((m2.set r.toNat ((m2.getD r.toNat L.ya).1, ((m2.getD r.toNat L.ya).2.1, (false, ((m2.getD r.toNat L.ya).2.2.2.1, ((m2.getD r.toNat L.ya).2.2.2.2.1, (m2.getD r.toNat L.ya).2.2.2.2.2)))))).set r.toNat (((m2.set r.toNat ((m2.getD r.toNat L.ya).1, ((m2.getD r.toNat L.ya).2.1, (false, ((m2.getD r.toNat L.ya).2.2.2.1, ((m2.getD r.toNat L.ya).2.2.2.2.1, (m2.getD r.toNat L.ya).2.2.2.2.2)))))).getD r.toNat L.ya).1, (((m2.set r.toNat ((m2.getD r.toNat L.ya).1, ((m2.getD r.toNat L.ya).2.1, (false, ((m2.getD r.toNat L.ya).2.2.2.1, ((m2.getD r.toNat L.ya).2.2.2.2.1, (m2.getD r.toNat L.ya).2.2.2.2.2)))))).getD r.toNat L.ya).2.1, (((m2.set r.toNat ((m2.getD r.toNat L.ya).1, ((m2.getD r.toNat L.ya).2.1, (false, ((m2.getD r.toNat L.ya).2.2.2.1, ((m2.getD r.toNat L.ya).2.2.2.2.1, (m2.getD r.toNat L.ya).2.2.2.2.2)))))).getD r.toNat L.ya).2.2.1, ((e == 3), (((m2.set r.toNat ((m2.getD r.toNat L.ya).1, ((m2.getD r.toNat L.ya).2.1, (false, ((m2.getD r.toNat L.ya).2.2.2.1, ((m2.getD r.toNat L.ya).2.2.2.2.1, (m2.getD r.toNat L.ya).2.2.2.2.2)))))).getD r.toNat L.ya).2.2.2.2.1, ((m2.set r.toNat ((m2.getD r.toNat L.ya).1, ((m2.getD r.toNat L.ya).2.1, (false, ((m2.getD r.toNat L.ya).2.2.2.1, ((m2.getD r.toNat L.ya).2.2.2.2.1, (m2.getD r.toNat L.ya).2.2.2.2.2)))))).getD r.toNat L.ya).2.2.2.2.2)))))).getD r.toNat L.ya).2.2.1, ((((m2.set r.toNat ((m2.getD r.toNat L.ya).1, ((m2.getD r.toNat L.ya).2.1, (false, ((m2.getD r.toNat L.ya).2.2.2.1, ((m2.getD r.toNat L.ya).2.2.2.2.1, (m2.getD r.toNat L.ya).2.2.2.2.2)))))).set r.toNat (((m2.set r.toNat ((m2.getD r.toNat L.ya).1, ((m2.getD r.toNat L.ya).2.1, (false, ((m2.getD r.toNat L.ya).2.2.2.1, ((m2.getD r.toNat L.ya).2.2.2.2.1, (m2.getD r.toNat L.ya).2.2.2.2.2)))))).getD r.toNat L.ya).1, (((m2.set r.toNat ((m2.getD r.toNat L.ya).1, ((m2.getD r.toNat L.ya).2.1, (false, ((m2.getD r.toNat L.ya).2.2.2.1, ((m2.getD r.toNat L.ya).2.2.2.2.1, (m2.getD r.toNat L.ya).2.2.2.2.2)))))).getD r.toNat L.ya).2.1, (((m2.set r.toNat ((m2.getD r.toNat L.ya).1, ((m2.getD r.toNat L.ya).2.1, (false, ((m2.getD r.toNat L.ya).2.2.2.1, ((m2.getD r.toNat L.ya).2.2.2.2.1, (m2.getD r.toNat L.ya).2.2.2.2.2)))))).getD r.toNat L.ya).2.2.1, ((e == 3), (((m2.set r.toNat ((m2.getD r.toNat L.ya).1, ((m2.getD r.toNat L.ya).2.1, (false, ((m2.getD r.toNat L.ya).2.2.2.1, ((m2.getD r.toNat L.ya).2.2.2.2.1, (m2.getD r.toNat L.ya).2.2.2.2.2)))))).getD r.toNat L.ya).2.2.2.2.1, ((m2.set r.toNat ((m2.getD r.toNat L.ya).1, ((m2.getD r.toNat L.ya).2.1, (false, ((m2.getD r.toNat L.ya).2.2.2.1, ((m2.getD r.toNat L.ya).2.2.2.2.1, (m2.getD r.toNat L.ya).2.2.2.2.2)))))).getD r.toNat L.ya).2.2.2.2.2)))))).getD r.toNat L.ya).2.2.2.1, ((e == 4), (((m2.set r.toNat ((m2.getD r.toNat L.ya).1, ((m2.getD r.toNat L.ya).2.1, (false, ((m2.getD r.toNat L.ya).2.2.2.1, ((m2.getD r.toNat L.ya).2.2.2.2.1, (m2.getD r.toNat L.ya).2.2.2.2.2)))))).set r.toNat (((m2.set r.toNat ((m2.getD r.toNat L.ya).1, ((m2.getD r.toNat L.ya).2.1, (false, ((m2.getD r.toNat L.ya).2.2.2.1, ((m2.getD r.toNat L.ya).2.2.2.2.1, (m2.getD r.toNat L.ya).2.2.2.2.2)))))).getD r.toNat L.ya).1, (((m2.set r.toNat ((m2.getD r.toNat L.ya).1, ((m2.getD r.toNat L.ya).2.1, (false, ((m2.getD r.toNat L.ya).2.2.2.1, ((m2.getD r.toNat L.ya).2.2.2.2.1, (m2.getD r.toNat L.ya).2.2.2.2.2)))))).getD r.toNat L.ya).2.1, (((m2.set r.toNat ((m2.getD r.toNat L.ya).1, ((m2.getD r.toNat L.ya).2.1, (false, ((m2.getD r.toNat L.ya).2.2.2.1, ((m2.getD r.toNat L.ya).2.2.2.2.1, (m2.getD r.toNat L.ya).2.2.2.2.2)))))).getD r.toNat L.ya).2.2.1, ((e == 3), (((m2.set r.toNat ((m2.getD r.toNat L.ya).1, ((m2.getD r.toNat L.ya).2.1, (false, ((m2.getD r.toNat L.ya).2.2.2.1, ((m2.getD r.toNat L.ya).2.2.2.2.1, (m2.getD r.toNat L.ya).2.2.2.2.2)))))).getD r.toNat L.ya).2.2.2.2.1, ((m2.set r.toNat ((m2.getD r.toNat L.ya).1, ((m2.getD r.toNat L.ya).2.1, (false, ((m2.getD r.toNat L.ya).2.2.2.1, ((m2.getD r.toNat L.ya).2.2.2.2.1, (m2.getD r.toNat L.ya).2.2.2.2.2)))))).getD r.toNat L.ya).2.2.2.2.2)))))).getD r.toNat L.ya).2.2.2.2.2)))))) m3 m4 K) ∧ L.e0_J1 m0 q (((m2.set r.toNat ((m2.getD r.toNat L.ya).1, ((m2.getD r.toNat L.ya).2.1, (false, ((m2.getD r.toNat L.ya).2.2.2.1, ((m2.getD r.toNat L.ya).2.2.2.2.1, (m2.getD r.toNat L.ya).2.2.2.2.2)))))).set r.toNat (((m2.set r.toNat ((m2.getD r.toNat L.ya).1, ((m2.getD r.toNat L.ya).2.1, (false, ((m2.getD r.toNat L.ya).2.2.2.1, ((m2.getD r.toNat L.ya).2.2.2.2.1, (m2.getD r.toNat L.ya).2.2.2.2.2)))))).getD r.toNat L.ya).1, (((m2.set r.toNat ((m2.getD r.toNat L.ya).1, ((m2.getD r.toNat L.ya).2.1, (false, ((m2.getD r.toNat L.ya).2.2.2.1, ((m2.getD r.toNat L.ya).2.2.2.2.1, (m2.getD r.toNat L.ya).2.2.2.2.2)))))).getD r.toNat L.ya).2.1, (((m2.set r.toNat ((m2.getD r.toNat L.ya).1, ((m2.getD r.toNat L.ya).2.1, (false, ((m2.getD r.toNat L.ya).2.2.2.1, ((m2.getD r.toNat L.ya).2.2.2.2.1, (m2.getD r.toNat L.ya).2.2.2.2.2)))))).getD r.toNat L.ya).2.2.1, ((e == 3), (((m2.set r.toNat ((m2.getD r.toNat L.ya).1, ((m2.getD r.toNat L.ya).2.1, (false, ((m2.getD r.toNat L.ya).2.2.2.1, ((m2.getD r.toNat L.ya).2.2.2.2.1, (m2.getD r.toNat L.ya).2.2.2.2.2)))))).getD r.toNat L.ya).2.2.2.2.1, ((m2.set r.toNat ((m2.getD r.toNat L.ya).1, ((m2.getD r.toNat L.ya).2.1, (false, ((m2.getD r.toNat L.ya).2.2.2.1, ((m2.getD r.toNat L.ya).2.2.2.2.1, (m2.getD r.toNat L.ya).2.2.2.2.2)))))).getD r.toNat L.ya).2.2.2.2.2)))))).set r.toNat ((((m2.set r.toNat ((m2.getD r.toNat L.ya).1, ((m2.getD r.toNat L.ya).2.1, (false, ((m2.getD r.toNat L.ya).2.2.2.1, ((m2.getD r.toNat L.ya).2.2.2.2.1, (m2.getD r.toNat L.ya).2.2.2.2.2)))))).set r.toNat (((m2.set r.toNat ((m2.getD r.toNat L.ya).1, ((m2.getD r.toNat L.ya).2.1, (false, ((m2.getD r.toNat L.ya).2.2.2.1, ((m2.getD r.toNat L.ya).2.2.2.2.1, (m2.getD r.toNat L.ya).2.2.2.2.2)))))).getD r.toNat L.ya).1, (((m2.set r.toNat ((m2.getD r.toNat L.ya).1, ((m2.getD r.toNat L.ya).2.1, (false, ((m2.getD r.toNat L.ya).2.2.2.1, ((m2.getD r.toNat L.ya).2.2.2.2.1, (m2.getD r.toNat L.ya).2.2.2.2.2)))))).getD r.toNat L.ya).2.1, (((m2.set r.toNat ((m2.getD r.toNat L.ya).1, ((m2.getD r.toNat L.ya).2.1, (false, ((m2.getD r.toNat L.ya).2.2.2.1, ((m2.getD r.toNat L.ya).2.2.2.2.1, (m2.getD r.toNat L.ya).2.2.2.2.2)))))).getD r.toNat L.ya).2.2.1, ((e == 3), (((m2.set r.toNat ((m2.getD r.toNat L.ya).1, ((m2.getD r.toNat L.ya).2.1, (false, ((m2.getD r.toNat L.ya).2.2.2.1, ((m2.getD r.toNat L.ya).2.2.2.2.1, (m2.getD r.toNat L.ya).2.2.2.2.2)))))).getD r.toNat L.ya).2.2.2.2.1, ((m2.set r.toNat ((m2.getD r.toNat L.ya).1, ((m2.getD r.toNat L.ya).2.1, (false, ((m2.getD r.toNat L.ya).2.2.2.1, ((m2.getD r.toNat L.ya).2.2.2.2.1, (m2.getD r.toNat L.ya).2.2.2.2.2)))))).getD r.toNat L.ya).2.2.2.2.2)))))).getD r.toNat L.ya).1, ((((m2.set r.toNat ((m2.getD r.toNat L.ya).1, ((m2.getD r.toNat L.ya).2.1, (false, ((m2.getD r.toNat L.ya).2.2.2.1, ((m2.getD r.toNat L.ya).2.2.2.2.1, (m2.getD r.toNat L.ya).2.2.2.2.2)))))).set r.toNat (((m2.set r.toNat ((m2.getD r.toNat L.ya).1, ((m2.getD r.toNat L.ya).2.1, (false, ((m2.getD r.toNat L.ya).2.2.2.1, ((m2.getD r.toNat L.ya).2.2.2.2.1, (m2.getD r.toNat L.ya).2.2.2.2.2)))))).getD r.toNat L.ya).1, (((m2.set r.toNat ((m2.getD r.toNat L.ya).1, ((m2.getD r.toNat L.ya).2.1, (false, ((m2.getD r.toNat L.ya).2.2.2.1, ((m2.getD r.toNat L.ya).2.2.2.2.1, (m2.getD r.toNat L.ya).2.2.2.2.2)))))).getD r.toNat L.ya).2.1, (((m2.set r.toNat ((m2.getD r.toNat L.ya).1, ((m2.getD r.toNat L.ya).2.1, (false, ((m2.getD r.toNat L.ya).2.2.2.1, ((m2.getD r.toNat L.ya).2.2.2.2.1, (m2.getD r.toNat L.ya).2.2.2.2.2)))))).getD r.toNat L.ya).2.2.1, ((e == 3), (((m2.set r.toNat ((m2.getD r.toNat L.ya).1, ((m2.getD r.toNat L.ya).2.1, (false, ((m2.getD r.toNat L.ya).2.2.2.1, ((m2.getD r.toNat L.ya).2.2.2.2.1, (m2.getD r.toNat L.ya).2.2.2.2.2)))))).getD r.toNat L.ya).2.2.2.2.1, ((m2.set r.toNat ((m2.getD r.toNat L.ya).1, ((m2.getD r.toNat L.ya).2.1, (false, ((m2.getD r.toNat L.ya).2.2.2.1, ((m2.getD r.toNat L.ya).2.2.2.2.1, (m2.getD r.toNat L.ya).2.2.2.2.2)))))).getD r.toNat L.ya).2.2.2.2.2)))))).getD r.toNat L.ya).2.1, ((((m2.set r.toNat ((m2.getD r.toNat L.ya).1, ((m2.getD r.toNat L.ya).2.1, (false, ((m2.getD r.toNat L.ya).2.2.2.1, ((m2.getD r.toNat L.ya).2.2.2.2.1, (m2.getD r.toNat L.ya).2.2.2.2.2)))))).set r.toNat (((m2.set r.toNat ((m2.getD r.toNat L.ya).1, ((m2.getD r.toNat L.ya).2.1, (false, ((m2.getD r.toNat L.ya).2.2.2.1, ((m2.getD r.toNat L.ya).2.2.2.2.1, (m2.getD r.toNat L.ya).2.2.2.2.2)))))).getD r.toNat L.ya).1, (((m2.set r.toNat ((m2.getD r.toNat L.ya).1, ((m2.getD r.toNat L.ya).2.1, (false, ((m2.getD r.toNat L.ya).2.2.2.1, ((m2.getD r.toNat L.ya).2.2.2.2.1, (m2.getD r.toNat L.ya).2.2.2.2.2)))))).getD r.toNat L.ya).2.1, (((m2.set r.toNat ((m2.getD r.toNat L.ya).1, ((m2.getD r.toNat L.ya).2.1, (false, ((m2.getD r.toNat L.ya).2.2.2.1, ((m2.getD r.toNat L.ya).2.2.2.2.1, (m2.getD r.toNat L.ya).2.2.2.2.2)))))).getD r.toNat L.ya).2.2.1, ((e == 3), (((m2.set r.toNat ((m2.getD r.toNat L.ya).1, ((m2.getD r.toNat L.ya).2.1, (false, ((m2.getD r.toNat L.ya).2.2.2.1, ((m2.getD r.toNat L.ya).2.2.2.2.1, (m2.getD r.toNat L.ya).2.2.2.2.2)))))).getD r.toNat L.ya).2.2.2.2.1, ((m2.set r.toNat ((m2.getD r.toNat L.ya).1, ((m2.getD r.toNat L.ya).2.1, (false, ((m2.getD r.toNat L.ya).2.2.2.1, ((m2.getD r.toNat L.ya).2.2.2.2.1, (m2.getD r.toNat L.ya).2.2.2.2.2)))))).getD r.toNat L.ya).2.2.2.2.2)))))).getD r.toNat L.ya).2.2.1, ((((m2.set r.toNat ((m2.getD r.toNat L.ya).1, ((m2.getD r.toNat L.ya).2.1, (false, ((m2.getD r.toNat L.ya).2.2.2.1, ((m2.getD r.toNat L.ya).2.2.2.2.1, (m2.getD r.toNat L.ya).2.2.2.2.2)))))).set r.toNat (((m2.set r.toNat ((m2.getD r.toNat L.ya).1, ((m2.getD r.toNat L.ya).2.1, (false, ((m2.getD r.toNat L.ya).2.2.2.1, ((m2.getD r.toNat L.ya).2.2.2.2.1, (m2.getD r.toNat L.ya).2.2.2.2.2)))))).getD r.toNat L.ya).1, (((m2.set r.toNat ((m2.getD r.toNat L.ya).1, ((m2.getD r.toNat L.ya).2.1, (false, ((m2.getD r.toNat L.ya).2.2.2.1, ((m2.getD r.toNat L.ya).2.2.2.2.1, (m2.getD r.toNat L.ya).2.2.2.2.2)))))).getD r.toNat L.ya).2.1, (((m2.set r.toNat ((m2.getD r.toNat L.ya).1, ((m2.getD r.toNat L.ya).2.1, (false, ((m2.getD r.toNat L.ya).2.2.2.1, ((m2.getD r.toNat L.ya).2.2.2.2.1, (m2.getD r.toNat L.ya).2.2.2.2.2)))))).getD r.toNat L.ya).2.2.1, ((e == 3), (((m2.set r.toNat ((m2.getD r.toNat L.ya).1, ((m2.getD r.toNat L.ya).2.1, (false, ((m2.getD r.toNat L.ya).2.2.2.1, ((m2.getD r.toNat L.ya).2.2.2.2.1, (m2.getD r.toNat L.ya).2.2.2.2.2)))))).getD r.toNat L.ya).2.2.2.2.1, ((m2.set r.toNat ((m2.getD r.toNat L.ya).1, ((m2.getD r.toNat L.ya).2.1, (false, ((m2.getD r.toNat L.ya).2.2.2.1, ((m2.getD r.toNat L.ya).2.2.2.2.1, (m2.getD r.toNat L.ya).2.2.2.2.2)))))).getD r.toNat L.ya).2.2.2.2.2)))))).getD r.toNat L.ya).2.2.2.1, ((e == 4), (((m2.set r.toNat ((m2.getD r.toNat L.ya).1, ((m2.getD r.toNat L.ya).2.1, (false, ((m2.getD r.toNat L.ya).2.2.2.1, ((m2.getD r.toNat L.ya).2.2.2.2.1, (m2.getD r.toNat L.ya).2.2.2.2.2)))))).set r.toNat (((m2.set r.toNat ((m2.getD r.toNat L.ya).1, ((m2.getD r.toNat L.ya).2.1, (false, ((m2.getD r.toNat L.ya).2.2.2.1, ((m2.getD r.toNat L.ya).2.2.2.2.1, (m2.getD r.toNat L.ya).2.2.2.2.2)))))).getD r.toNat L.ya).1, (((m2.set r.toNat ((m2.getD r.toNat L.ya).1, ((m2.getD r.toNat L.ya).2.1, (false, ((m2.getD r.toNat L.ya).2.2.2.1, ((m2.getD r.toNat L.ya).2.2.2.2.1, (m2.getD r.toNat L.ya).2.2.2.2.2)))))).getD r.toNat L.ya).2.1, (((m2.set r.toNat ((m2.getD r.toNat L.ya).1, ((m2.getD r.toNat L.ya).2.1, (false, ((m2.getD r.toNat L.ya).2.2.2.1, ((m2.getD r.toNat L.ya).2.2.2.2.1, (m2.getD r.toNat L.ya).2.2.2.2.2)))))).getD r.toNat L.ya).2.2.1, ((e == 3), (((m2.set r.toNat ((m2.getD r.toNat L.ya).1, ((m2.getD r.toNat L.ya).2.1, (false, ((m2.getD r.toNat L.ya).2.2.2.1, ((m2.getD r.toNat L.ya).2.2.2.2.1, (m2.getD r.toNat L.ya).2.2.2.2.2)))))).getD r.toNat L.ya).2.2.2.2.1, ((m2.set r.toNat ((m2.getD r.toNat L.ya).1, ((m2.getD r.toNat L.ya).2.1, (false, ((m2.getD r.toNat L.ya).2.2.2.1, ((m2.getD r.toNat L.ya).2.2.2.2.1, (m2.getD r.toNat L.ya).2.2.2.2.2)))))).getD r.toNat L.ya).2.2.2.2.2)))))).getD r.toNat L.ya).2.2.2.2.2)))))) m3 m4 K)))
structure L.e0 (e : Int) (e1 : Int) (e2 : Int) (m0 : Pool) (q : Int) (m2 : L.yd) (m3 : (List Int)) (m4 : (List Int)) (K : Pool → Int → L.yd → (List Int) → (List Int) → Prop) : Prop where
  out : L.e0_B e e1 e2 m0 q m2 m3 m4 K
def L.e0_ss : List Sh := [.cl 1 0, .agg [.int .i64, .int .i64, .int .i64]]
def L.e0_os : List OSh := [.pool, .cells [.vec 2, .vec 3, .vec 4, .int .i64], .vec L.yb true, .vec (.int .i64) true, .vec (.int .i64) true]
def L.e0_G (vs : List V) (st : List Ob) (K : V → List Ob → Prop) : Prop := L.e0 (gI ((gC (gA vs 1)).getD 0 .any)) (gI ((gC (gA vs 1)).getD 1 .any)) (gI ((gC (gA vs 1)).getD 2 .any)) (oM (gD st 0)) (cI st 1 3) (oX L.yb (gD st 2)) (oX (.int .i64) (gD st 3)) (oX (.int .i64) (gD st 4)) (fun r0 r1 r2 r3 r4 => K (.tup []) [.pool r0, .cells [.vec 5, .vec 6, .vec 7, .xi r1], .dead, .dead, .dead, .vec L.yb 0 r2, .vec (.int .i64) 0 r3, .vec (.int .i64) 0 r4])
def L.e0_S : SemO := fun args st K => argO L.e0_ss L.e0_os args st fun a s => L.e0_G a s K
theorem L.e0_eq (e : Int) (e1 : Int) (e2 : Int) (m0 : Pool) (q : Int) (m2 : L.yd) (m3 : (List Int)) (m4 : (List Int)) (K : V → List Ob → Prop) : runH L.pg L.Γ_e0 L.Δ_e0 (.node .leaf (.node .leaf (.cut .leaf L.e0_J1_d 52 L.e0_J1_F))) (.tup []) [] Tryz.f16 false 5 [.cl 1 0, .agg [.xi e, .xi e1, .xi e2]] [.pool m0, .cells [.vec 2, .vec 3, .vec 4, .xi q], .vec L.yb 0 m2, .vec (.int .i64) 0 m3, .vec (.int .i64) 0 m4] K = L.e0_B e e1 e2 m0 q m2 m3 m4 (fun r0 r1 r2 r3 r4 => K (.tup []) [.pool r0, .cells [.vec 5, .vec 6, .vec 7, .xi r1], .dead, .dead, .dead, .vec L.yb 0 r2, .vec (.int .i64) 0 r3, .vec (.int .i64) 0 r4]) := by
  kernel_rfl
theorem L.e0_imp (vs : List V) (st : List Ob) (K : V → List Ob → Prop) : Imp (L.e0_G vs st K) (runH L.pg L.Γ_e0 L.Δ_e0 (.node .leaf (.node .leaf (.cut .leaf L.e0_J1_d 52 L.e0_J1_F))) (.tup []) [] Tryz.f16 false 5 (mkL L.e0_ss 0 vs) (mkOs L.e0_os 0 st) K) :=
  Imp.of (Eq.trans (b := runH L.pg L.Γ_e0 L.Δ_e0 (.node .leaf (.node .leaf (.cut .leaf L.e0_J1_d 52 L.e0_J1_F))) (.tup []) [] Tryz.f16 false 5 [.cl 1 0, .agg [.xi (gI ((gC (gA vs 1)).getD 0 .any)), .xi (gI ((gC (gA vs 1)).getD 1 .any)), .xi (gI ((gC (gA vs 1)).getD 2 .any))]] [.pool (oM (gD st 0)), .cells [.vec 2, .vec 3, .vec 4, .xi (cI st 1 3)], .vec L.yb 0 (oX L.yb (gD st 2)), .vec (.int .i64) 0 (oX (.int .i64) (gD st 3)), .vec (.int .i64) 0 (oX (.int .i64) (gD st 4))] K) (by kernel_rfl) (L.e0_eq (gI ((gC (gA vs 1)).getD 0 .any)) (gI ((gC (gA vs 1)).getD 1 .any)) (gI ((gC (gA vs 1)).getD 2 .any)) (oM (gD st 0)) (cI st 1 3) (oX L.yb (gD st 2)) (oX (.int .i64) (gD st 3)) (oX (.int .i64) (gD st 4)) K)) fun h => (L.e0.out h)
theorem L.e0_ok : SoundO L.pg 16 L.e0_S :=
  fnO_ok (sem := runH L.pg L.Γ_e0 L.Δ_e0 (.node .leaf (.node .leaf (.cut .leaf L.e0_J1_d 52 L.e0_J1_F))) (.tup []) [] Tryz.f16 false 5) (ss := L.e0_ss) (os := L.e0_os) (G := L.e0_G) (runH_ok L.Γ_e0_ok L.Δ_e0_ok Tryz.func16 (ann := (.node .leaf (.node .leaf (.cut .leaf L.e0_J1_d 52 L.e0_J1_F)))) rfl ⟨(annOk_leaf _), ⟨(annOk_leaf _), (cut_ok (ay := .leaf) (ss := L.e0_J1_ss) (os := L.e0_J1_os) (G := L.e0_J1_G) rfl (annOk_leaf _) (Nat.le_of_ble_eq_true rfl) (Nat.le_of_ble_eq_true rfl) (annOk_leaf _) L.e0_J1_ok)⟩⟩) L.e0_imp
def L.Γ_b3 : Ctx := L.Γ_e0
theorem L.Γ_b3_ok : SoundG L.pg L.Γ_b3 := L.Γ_e0_ok
def L.Δ_b3 : CtxO := ctxE L.Δ_e0 16 [.any, .any] L.e0_ss L.e0_os L.e0_G
theorem L.Δ_b3_ok : SoundGO L.pg L.Δ_b3 := ctxE_ok L.Δ_e0_ok L.e0_ok
def L.b3_L1_b (v26 : (List (Int × (Int × Int)))) (v27 : Int) (v28 : Int) (m0 : Pool) (q : Int) (m4 : L.yd) (m5 : (List Int)) (m6 : (List Int)) (self : Int → Pool → Int → L.yd → (List Int) → (List Int) → Prop) (Kx0 : Pool → Int → L.yd → (List Int) → (List Int) → Prop) (Kr : Pool → Int → Int → Prop) : Prop :=
  (bif (decide (v28 < v27)) then (inB v28 v26.length) ∧ (okRows m0 L.yb m4) ∧ L.e2 (List.map (fz m0 L.yb) m4) m5 m6 q ((v26.getD v28.toNat (0, (0, 0))).1) ((v26.getD v28.toNat (0, (0, 0))).2.1) ((v26.getD v28.toNat (0, (0, 0))).2.2) (fun r => (bif (r != 0) then Kr m0 r v28 else L.e0 ((v26.getD v28.toNat (0, (0, 0))).1) ((v26.getD v28.toNat (0, (0, 0))).2.1) ((v26.getD v28.toNat (0, (0, 0))).2.2) m0 q m4 m5 m6 (fun m q1 r1 r2 r3 => self (i64 (v28 + 1)) m q1 r1 r2 r3))) else Kx0 m0 q m4 m5 m6)
def L.b3_L1_R (v26 : (List (Int × (Int × Int)))) (v27 : Int) : Nat → Int → Pool → Int → L.yd → (List Int) → (List Int) → (Pool → Int → L.yd → (List Int) → (List Int) → Prop) → (Pool → Int → Int → Prop) → Prop
  | 0, _, _, _, _, _, _, _, _ => False
  | fu + 1, v28, m0, q, m4, m5, m6, Kx0, Kr => L.b3_L1_b v26 v27 v28 m0 q m4 m5 m6 (fun v28 m0 q m4 m5 m6 => L.b3_L1_R v26 v27 fu v28 m0 q m4 m5 m6 Kx0 Kr) Kx0 Kr
structure L.b3_L1 (v26 : (List (Int × (Int × Int)))) (v27 : Int) (v28 : Int) (m0 : Pool) (q : Int) (m4 : L.yd) (m5 : (List Int)) (m6 : (List Int)) (Kx0 : Pool → Int → L.yd → (List Int) → (List Int) → Prop) (Kr : Pool → Int → Int → Prop) : Prop where
  out : ∃ fu, L.b3_L1_R v26 v27 fu v28 m0 q m4 m5 m6 Kx0 Kr
def L.b3_L1_d : LoopD := { base := 4, vecs := [], flds := [(3, 0, .sl L.yb), (3, 1, .sl (.int .i64)), (3, 2, .sl (.int .i64))], keep := [4, 5, 6, 26, 27, 28], out := [4, 5, 6], rets := [4, 5], rv := [], rbase := 1 }
def L.b3_L1_ss : List Sh := [.cl 1 0, .cl 2 0, .cl 3 0, .ro (.pair (.int .i64) (.pair (.int .i64) (.int .i64))), .int .i64, .int .i64]
def L.b3_L1_os : List OSh := [.pool, .cells [.nil, .nil, .nil], .cells [.int .i64, .int .i64], .cells [.vec 4, .vec 5, .vec 6, .int .i64], .vec L.yb true, .vec (.int .i64) true, .vec (.int .i64) true]
def L.b3_L1_G (vs : List V) (st : List Ob) (K : Ex → St) : Prop := L.b3_L1 (gR (.pair (.int .i64) (.pair (.int .i64) (.int .i64))) (gA vs 3)) (gI (gA vs 4)) (gI (gA vs 5)) (oM (gD st 0)) (cI st 3 3) (oX L.yb (gD st 4)) (oX (.int .i64) (gD st 5)) (oX (.int .i64) (gD st 6)) (fun q0_ q1_ q2_ q3_ q4_ => K (.exit 0) (bld [4, 5, 6] [.cl 1 0, .cl 2 0, .cl 3 0] 0 51) [.pool q0_, .cells [.x (.slice none 0 0), .x (.slice none 0 0), .x (.slice none 0 0)], .cells [.xi (cI st 2 0), .xi (cI st 2 1)], .cells [.vec 4, .vec 5, .vec 6, .xi q1_], .vec L.yb 0 q2_, .vec (.int .i64) 0 q3_, .vec (.int .i64) 0 q4_]) (fun q0_ q1_ q2_ => K .ret (bld [4, 5] [.cl 1 0, .cl 2 0] 0 51) [.pool q0_, .cells [.x (.slice none 0 0), .x (.slice none 0 0), .x (.slice none 0 0)], .cells [.xi q1_, .xi q2_]])
def L.b3_L1_F (vs : List V) (st : List Ob) (K : Ex → St) : Prop := fitF L.b3_L1_ss L.b3_L1_os vs st (L.b3_L1_G vs st K)
theorem L.b3_L1_eq (v26 : (List (Int × (Int × Int)))) (v27 : Int) (m2 : Int) (m21 : Int) (K : Ex → St) : ∀ (fu : Nat) (v28 : Int) (m0 : Pool) (q : Int) (m4 : L.yd) (m5 : (List Int)) (m6 : (List Int)), L.b3_L1_R v26 v27 fu v28 m0 q m4 m5 m6 (fun q0_ q1_ q2_ q3_ q4_ => K (.exit 0) (bld [4, 5, 6] [.cl 1 0, .cl 2 0, .cl 3 0] 0 51) [.pool q0_, .cells [.x (.slice none 0 0), .x (.slice none 0 0), .x (.slice none 0 0)], .cells [.xi m2, .xi m21], .cells [.vec 4, .vec 5, .vec 6, .xi q1_], .vec L.yb 0 q2_, .vec (.int .i64) 0 q3_, .vec (.int .i64) 0 q4_]) (fun q0_ q1_ q2_ => K .ret (bld [4, 5] [.cl 1 0, .cl 2 0] 0 51) [.pool q0_, .cells [.x (.slice none 0 0), .x (.slice none 0 0), .x (.slice none 0 0)], .cells [.xi q1_, .xi q2_]]) = iterL (stepL (exec L.pg (CC L.pg L.Γ_b3 L.Δ_b3) (drawD L.pg L.Γ_b3 L.Δ_b3) .leaf (sub [true, true, true, true, false, true, false, false] (codeOf Tryz.f8))) 4 L.b3_L1_d K) fu (bld L.b3_L1_d.keep [.cl 1 0, .cl 2 0, .cl 3 0, .ro (.pair (.int .i64) (.pair (.int .i64) (.int .i64))) v26, .xi v27, .xi v28] 0 51) [.pool m0, .cells [.x (.slice none 0 0), .x (.slice none 0 0), .x (.slice none 0 0)], .cells [.xi m2, .xi m21], .cells [.vec 4, .vec 5, .vec 6, .xi q], .vec L.yb 0 m4, .vec (.int .i64) 0 m5, .vec (.int .i64) 0 m6] := by
  intro fu
  induction fu with
  | zero => intros; rfl
  | succ fu ih =>
    intro v28 m0 q m4 m5 m6
    have e : (fun v28 m0 q m4 m5 m6 => L.b3_L1_R v26 v27 fu v28 m0 q m4 m5 m6 (fun q0_ q1_ q2_ q3_ q4_ => K (.exit 0) (bld [4, 5, 6] [.cl 1 0, .cl 2 0, .cl 3 0] 0 51) [.pool q0_, .cells [.x (.slice none 0 0), .x (.slice none 0 0), .x (.slice none 0 0)], .cells [.xi m2, .xi m21], .cells [.vec 4, .vec 5, .vec 6, .xi q1_], .vec L.yb 0 q2_, .vec (.int .i64) 0 q3_, .vec (.int .i64) 0 q4_]) (fun q0_ q1_ q2_ => K .ret (bld [4, 5] [.cl 1 0, .cl 2 0] 0 51) [.pool q0_, .cells [.x (.slice none 0 0), .x (.slice none 0 0), .x (.slice none 0 0)], .cells [.xi q1_, .xi q2_]])) = fun v28 m0 q m4 m5 m6 => iterL (stepL (exec L.pg (CC L.pg L.Γ_b3 L.Δ_b3) (drawD L.pg L.Γ_b3 L.Δ_b3) .leaf (sub [true, true, true, true, false, true, false, false] (codeOf Tryz.f8))) 4 L.b3_L1_d K) fu (bld L.b3_L1_d.keep [.cl 1 0, .cl 2 0, .cl 3 0, .ro (.pair (.int .i64) (.pair (.int .i64) (.int .i64))) v26, .xi v27, .xi v28] 0 51) [.pool m0, .cells [.x (.slice none 0 0), .x (.slice none 0 0), .x (.slice none 0 0)], .cells [.xi m2, .xi m21], .cells [.vec 4, .vec 5, .vec 6, .xi q], .vec L.yb 0 m4, .vec (.int .i64) 0 m5, .vec (.int .i64) 0 m6] := by
      funext v28 m0 q m4 m5 m6; exact ih v28 m0 q m4 m5 m6
    show L.b3_L1_b v26 v27 v28 m0 q m4 m5 m6 (fun v28 m0 q m4 m5 m6 => L.b3_L1_R v26 v27 fu v28 m0 q m4 m5 m6 (fun q0_ q1_ q2_ q3_ q4_ => K (.exit 0) (bld [4, 5, 6] [.cl 1 0, .cl 2 0, .cl 3 0] 0 51) [.pool q0_, .cells [.x (.slice none 0 0), .x (.slice none 0 0), .x (.slice none 0 0)], .cells [.xi m2, .xi m21], .cells [.vec 4, .vec 5, .vec 6, .xi q1_], .vec L.yb 0 q2_, .vec (.int .i64) 0 q3_, .vec (.int .i64) 0 q4_]) (fun q0_ q1_ q2_ => K .ret (bld [4, 5] [.cl 1 0, .cl 2 0] 0 51) [.pool q0_, .cells [.x (.slice none 0 0), .x (.slice none 0 0), .x (.slice none 0 0)], .cells [.xi q1_, .xi q2_]])) (fun q0_ q1_ q2_ q3_ q4_ => K (.exit 0) (bld [4, 5, 6] [.cl 1 0, .cl 2 0, .cl 3 0] 0 51) [.pool q0_, .cells [.x (.slice none 0 0), .x (.slice none 0 0), .x (.slice none 0 0)], .cells [.xi m2, .xi m21], .cells [.vec 4, .vec 5, .vec 6, .xi q1_], .vec L.yb 0 q2_, .vec (.int .i64) 0 q3_, .vec (.int .i64) 0 q4_]) (fun q0_ q1_ q2_ => K .ret (bld [4, 5] [.cl 1 0, .cl 2 0] 0 51) [.pool q0_, .cells [.x (.slice none 0 0), .x (.slice none 0 0), .x (.slice none 0 0)], .cells [.xi q1_, .xi q2_]]) = _
    rw [e]
    kernel_rfl
theorem L.b3_L1_imp (vs : List V) (st : List Ob) (K : Ex → St) (h : L.b3_L1_G vs st K) : ∃ fu, iterL (stepL (exec L.pg (CC L.pg L.Γ_b3 L.Δ_b3) (drawD L.pg L.Γ_b3 L.Δ_b3) .leaf (sub [true, true, true, true, false, true, false, false] (codeOf Tryz.f8))) 4 L.b3_L1_d K) fu (bld L.b3_L1_d.keep (mkL L.b3_L1_ss 0 vs) 0 51) (mkOs L.b3_L1_os 0 st) :=
  exMap (fun fu h => @Eq.mp _ _ (Eq.trans (L.b3_L1_eq (gR (.pair (.int .i64) (.pair (.int .i64) (.int .i64))) (gA vs 3)) (gI (gA vs 4)) (cI st 2 0) (cI st 2 1) K fu (gI (gA vs 5)) (oM (gD st 0)) (cI st 3 3) (oX L.yb (gD st 4)) (oX (.int .i64) (gD st 5)) (oX (.int .i64) (gD st 6))) (by kernel_rfl)) h) (L.b3_L1.out h)
theorem L.b3_L1_ok : AnnOk L.pg (CC L.pg L.Γ_b3 L.Δ_b3) (drawD L.pg L.Γ_b3 L.Δ_b3) 1 (.lift L.b3_L1_d 51 L.b3_L1_F) (.loop (sub [true, true, true, true, false, true, false, false] (codeOf Tryz.f8))) :=
  lift_ok (an := .leaf) (ss := L.b3_L1_ss) (os := L.b3_L1_os) (G := L.b3_L1_G) rfl (Nat.le_of_ble_eq_true rfl) (annOk_leaf _) (L.b3_L1_imp)
def L.b3_B (window : Int) (events : (List (Int × (Int × Int)))) (K : (List L.yh) → (List Int) → (List Int) → Int → Int → Prop) : Prop :=
  (bif (bif (decide (window < 1)) then true else (decide (window > 4))) then K ([] : List L.yh) ([] : List Int) ([] : List Int) 3 (-2) else (bif (decide ((events.length : Int) > 40)) then K ([] : List L.yh) ([] : List Int) ([] : List Int) 2 (-1) else L.b3_L1 events (events.length : Int) 0 [] window ([] : List (Int × (Int × (Bool × (Bool × (Bool × Hd)))))) ([] : List Int) ([] : List Int) (fun m q m1 m2 m3 => (okRows m L.yb m1) ∧ K (List.map (fz m L.yb) m1) m2 m3 0 0) (fun m4 m5 m6 => K ([] : List L.yh) ([] : List Int) ([] : List Int) m5 m6)))
structure L.b3 (window : Int) (events : (List (Int × (Int × Int)))) (K : (List L.yh) → (List Int) → (List Int) → Int → Int → Prop) : Prop where
  out : L.b3_B window events K
def L.b3_ss : List Sh := [.int .i64, .ro (.pair (.int .i64) (.pair (.int .i64) (.int .i64)))]
def L.b3_os : List OSh := []
def L.b3_G (vs : List V) (st : List Ob) (K : V → List Ob → Prop) : Prop := L.b3 (gI (gA vs 0)) (gR (.pair (.int .i64) (.pair (.int .i64) (.int .i64))) (gA vs 1)) (fun r0 r1 r2 r3 r4 => K (.tup [.agg [.ro L.T5 r0, .ro (.int .i64) r1, .ro (.int .i64) r2], .agg [.xi r3, .xi r4]]) [])
def L.b3_S : SemO := fun args st K => argO L.b3_ss L.b3_os args st fun a s => L.b3_G a s K
theorem L.b3_eq (window : Int) (events : (List (Int × (Int × Int)))) (K : V → List Ob → Prop) : runH L.pg L.Γ_b3 L.Δ_b3 (.node .leaf (.node .leaf (.node .leaf (.node .leaf (.node (.node .leaf (.lift L.b3_L1_d 51 L.b3_L1_F)) .leaf))))) (.tup [(.agg [(.ro L.T5), (.ro (.int .i64)), (.ro (.int .i64))]), .any]) [] Tryz.f8 true 0 [.xi window, .ro (.pair (.int .i64) (.pair (.int .i64) (.int .i64))) events] [] K = L.b3_B window events (fun r0 r1 r2 r3 r4 => K (.tup [.agg [.ro L.T5 r0, .ro (.int .i64) r1, .ro (.int .i64) r2], .agg [.xi r3, .xi r4]]) []) := by
  kernel_rfl
theorem L.b3_imp (vs : List V) (st : List Ob) (K : V → List Ob → Prop) : Imp (L.b3_G vs st K) (runH L.pg L.Γ_b3 L.Δ_b3 (.node .leaf (.node .leaf (.node .leaf (.node .leaf (.node (.node .leaf (.lift L.b3_L1_d 51 L.b3_L1_F)) .leaf))))) (.tup [(.agg [(.ro L.T5), (.ro (.int .i64)), (.ro (.int .i64))]), .any]) [] Tryz.f8 true 0 (mkL L.b3_ss 0 vs) (mkOs L.b3_os 0 st) K) :=
  Imp.of (Eq.trans (b := runH L.pg L.Γ_b3 L.Δ_b3 (.node .leaf (.node .leaf (.node .leaf (.node .leaf (.node (.node .leaf (.lift L.b3_L1_d 51 L.b3_L1_F)) .leaf))))) (.tup [(.agg [(.ro L.T5), (.ro (.int .i64)), (.ro (.int .i64))]), .any]) [] Tryz.f8 true 0 [.xi (gI (gA vs 0)), .ro (.pair (.int .i64) (.pair (.int .i64) (.int .i64))) (gR (.pair (.int .i64) (.pair (.int .i64) (.int .i64))) (gA vs 1))] [] K) (by kernel_rfl) (L.b3_eq (gI (gA vs 0)) (gR (.pair (.int .i64) (.pair (.int .i64) (.int .i64))) (gA vs 1)) K)) fun h => (L.b3.out h)
theorem L.b3_ok : SoundO L.pg 8 L.b3_S :=
  fnO_ok (sem := runH L.pg L.Γ_b3 L.Δ_b3 (.node .leaf (.node .leaf (.node .leaf (.node .leaf (.node (.node .leaf (.lift L.b3_L1_d 51 L.b3_L1_F)) .leaf))))) (.tup [(.agg [(.ro L.T5), (.ro (.int .i64)), (.ro (.int .i64))]), .any]) [] Tryz.f8 true 0) (ss := L.b3_ss) (os := L.b3_os) (G := L.b3_G) (runH_ok L.Γ_b3_ok L.Δ_b3_ok Tryz.func8 (ann := (.node .leaf (.node .leaf (.node .leaf (.node .leaf (.node (.node .leaf (.lift L.b3_L1_d 51 L.b3_L1_F)) .leaf)))))) rfl ⟨(annOk_leaf _), ⟨(annOk_leaf _), ⟨(annOk_leaf _), ⟨(annOk_leaf _), ⟨⟨(annOk_leaf _), L.b3_L1_ok⟩, (annOk_leaf _)⟩⟩⟩⟩⟩) L.b3_imp
def L.Γ_d4 : Ctx := L.Γ_b3
theorem L.Γ_d4_ok : SoundG L.pg L.Γ_d4 := L.Γ_b3_ok
def L.Δ_d4 : CtxO := ctxE L.Δ_b3 8 [.any, .ro (.pair (.int .i64) (.pair (.int .i64) (.int .i64)))] L.b3_ss L.b3_os L.b3_G
theorem L.Δ_d4_ok : SoundGO L.pg L.Δ_d4 := ctxE_ok L.Δ_b3_ok L.b3_ok
def L.d4_L1_b (n1 : Int) (l1 : (List Int)) (v7 : (List Int)) (v8 : Int) (v9 : Int) (self : Int → Prop) (Kx0 : Prop) (Kr : Int → Prop) : Prop :=
  (bif (decide (v9 < v8)) then (inB v9 v7.length) ∧ (bif (bif (decide ((v7.getD v9.toNat 0) < 0)) then true else (decide ((v7.getD v9.toNat 0) ≥ n1))) then Kr 3 else ((((decide (v9 > 0)) == true) = true → inB (i64 (v9 - 1)) l1.length)) ∧ (bif (bif (decide (v9 > 0)) then (decide ((v7.getD v9.toNat 0) ≤ (l1.getD ((i64 (v9 - 1)).toNat) 0))) else false) then Kr 5 else self (i64 (v9 + 1)))) else Kx0)
def L.d4_L1_R (n1 : Int) (l1 : (List Int)) (v7 : (List Int)) (v8 : Int) : Nat → Int → (Prop) → (Int → Prop) → Prop
  | 0, _, _, _ => False
  | fu + 1, v9, Kx0, Kr => L.d4_L1_b n1 l1 v7 v8 v9 (fun v9 => L.d4_L1_R n1 l1 v7 v8 fu v9 Kx0 Kr) Kx0 Kr
structure L.d4_L1 (n1 : Int) (l1 : (List Int)) (v7 : (List Int)) (v8 : Int) (v9 : Int) (Kx0 : Prop) (Kr : Int → Prop) : Prop where
  out : ∃ fu, L.d4_L1_R n1 l1 v7 v8 fu v9 Kx0 Kr
def L.d4_L1_d : LoopD := { base := 0, vecs := [], flds := [], keep := [0, 1, 7, 8, 9], out := [], rets := [4], rv := [], rbase := 0 }
def L.d4_L1_ss : List Sh := [.int .i64, .ro (.int .i64), .ro (.int .i64), .int .i64, .int .i64]
def L.d4_L1_os : List OSh := []
def L.d4_L1_G (vs : List V) (st : List Ob) (K : Ex → St) : Prop := L.d4_L1 (gI (gA vs 0)) (gR (.int .i64) (gA vs 1)) (gR (.int .i64) (gA vs 2)) (gI (gA vs 3)) (gI (gA vs 4)) (K (.exit 0) (bld [] [] 0 33) []) (fun q0_ => K .ret (bld [4] [.xi q0_] 0 33) [])
def L.d4_L1_F (vs : List V) (st : List Ob) (K : Ex → St) : Prop := fitF L.d4_L1_ss L.d4_L1_os vs st (L.d4_L1_G vs st K)
theorem L.d4_L1_eq (n1 : Int) (l1 : (List Int)) (v7 : (List Int)) (v8 : Int) (K : Ex → St) : ∀ (fu : Nat) (v9 : Int), L.d4_L1_R n1 l1 v7 v8 fu v9 (K (.exit 0) (bld [] [] 0 33) []) (fun q0_ => K .ret (bld [4] [.xi q0_] 0 33) []) = iterL (stepL (exec L.pg (CC L.pg L.Γ_d4 L.Δ_d4) (drawD L.pg L.Γ_d4 L.Δ_d4) .leaf (sub [true, false, true, false, false] (codeOf Tryz.f21))) 0 L.d4_L1_d K) fu (bld L.d4_L1_d.keep [.xi n1, .ro (.int .i64) l1, .ro (.int .i64) v7, .xi v8, .xi v9] 0 33) [] := by
  intro fu
  induction fu with
  | zero => intros; rfl
  | succ fu ih =>
    intro v9
    have e : (fun v9 => L.d4_L1_R n1 l1 v7 v8 fu v9 (K (.exit 0) (bld [] [] 0 33) []) (fun q0_ => K .ret (bld [4] [.xi q0_] 0 33) [])) = fun v9 => iterL (stepL (exec L.pg (CC L.pg L.Γ_d4 L.Δ_d4) (drawD L.pg L.Γ_d4 L.Δ_d4) .leaf (sub [true, false, true, false, false] (codeOf Tryz.f21))) 0 L.d4_L1_d K) fu (bld L.d4_L1_d.keep [.xi n1, .ro (.int .i64) l1, .ro (.int .i64) v7, .xi v8, .xi v9] 0 33) [] := by
      funext v9; exact ih v9
    show L.d4_L1_b n1 l1 v7 v8 v9 (fun v9 => L.d4_L1_R n1 l1 v7 v8 fu v9 (K (.exit 0) (bld [] [] 0 33) []) (fun q0_ => K .ret (bld [4] [.xi q0_] 0 33) [])) (K (.exit 0) (bld [] [] 0 33) []) (fun q0_ => K .ret (bld [4] [.xi q0_] 0 33) []) = _
    rw [e]
    kernel_rfl
theorem L.d4_L1_imp (vs : List V) (st : List Ob) (K : Ex → St) (h : L.d4_L1_G vs st K) : ∃ fu, iterL (stepL (exec L.pg (CC L.pg L.Γ_d4 L.Δ_d4) (drawD L.pg L.Γ_d4 L.Δ_d4) .leaf (sub [true, false, true, false, false] (codeOf Tryz.f21))) 0 L.d4_L1_d K) fu (bld L.d4_L1_d.keep (mkL L.d4_L1_ss 0 vs) 0 33) (mkOs L.d4_L1_os 0 st) :=
  exMap (fun fu h => @Eq.mp _ _ (Eq.trans (L.d4_L1_eq (gI (gA vs 0)) (gR (.int .i64) (gA vs 1)) (gR (.int .i64) (gA vs 2)) (gI (gA vs 3)) K fu (gI (gA vs 4))) (by kernel_rfl)) h) (L.d4_L1.out h)
theorem L.d4_L1_ok : AnnOk L.pg (CC L.pg L.Γ_d4 L.Δ_d4) (drawD L.pg L.Γ_d4 L.Δ_d4) 0 (.lift L.d4_L1_d 33 L.d4_L1_F) (.loop (sub [true, false, true, false, false] (codeOf Tryz.f21))) :=
  lift_ok (an := .leaf) (ss := L.d4_L1_ss) (os := L.d4_L1_os) (G := L.d4_L1_G) rfl (Nat.le_of_ble_eq_true rfl) (annOk_leaf _) (L.d4_L1_imp)
def L.d4_B (n : Int) (l : (List Int)) (K : Int → Prop) : Prop :=
  L.d4_L1 n l l (l.length : Int) 0 (K 0) (fun r => K r)
structure L.d4 (n : Int) (l : (List Int)) (K : Int → Prop) : Prop where
  out : L.d4_B n l K
def L.d4_ss : List Sh := [.int .i64, .ro (.int .i64)]
def L.d4_G (vs : List V) (K : V → List Ob → Prop) : Prop := L.d4 (gI (gA vs 0)) (gR (.int .i64) (gA vs 1)) (fun r0 => K (.xi r0) [])
def L.d4_S : SemF := fun args K => argF L.d4_ss args fun a => L.d4_G a K
theorem L.d4_eq (n : Int) (l : (List Int)) (K : V → List Ob → Prop) : run L.pg L.Γ_d4 L.Δ_d4 (.node .leaf (.node (.node .leaf (.lift L.d4_L1_d 33 L.d4_L1_F)) .leaf)) .any Tryz.f21 [.xi n, .ro (.int .i64) l] K = L.d4_B n l (fun r0 => K (.xi r0) []) := by
  kernel_rfl
theorem L.d4_imp (vs : List V) (K : V → List Ob → Prop) : Imp (L.d4_G vs K) (run L.pg L.Γ_d4 L.Δ_d4 (.node .leaf (.node (.node .leaf (.lift L.d4_L1_d 33 L.d4_L1_F)) .leaf)) .any Tryz.f21 (mkL L.d4_ss 0 vs) K) :=
  Imp.of (Eq.trans (b := run L.pg L.Γ_d4 L.Δ_d4 (.node .leaf (.node (.node .leaf (.lift L.d4_L1_d 33 L.d4_L1_F)) .leaf)) .any Tryz.f21 [.xi (gI (gA vs 0)), .ro (.int .i64) (gR (.int .i64) (gA vs 1))] K) (by kernel_rfl) (L.d4_eq (gI (gA vs 0)) (gR (.int .i64) (gA vs 1)) K)) fun h => (L.d4.out h)
theorem L.d4_ok : SoundFn L.pg 21 L.d4_S :=
  fn_ok (sem := run L.pg L.Γ_d4 L.Δ_d4 (.node .leaf (.node (.node .leaf (.lift L.d4_L1_d 33 L.d4_L1_F)) .leaf)) .any Tryz.f21) (ss := L.d4_ss) (G := L.d4_G) (run_ok L.Γ_d4_ok L.Δ_d4_ok Tryz.func21 (ann := (.node .leaf (.node (.node .leaf (.lift L.d4_L1_d 33 L.d4_L1_F)) .leaf))) ⟨(annOk_leaf _), ⟨⟨(annOk_leaf _), L.d4_L1_ok⟩, (annOk_leaf _)⟩⟩) L.d4_imp
def L.Γ_a5 : Ctx := ctxC L.Γ_d4 21 L.d4_S
theorem L.Γ_a5_ok : SoundG L.pg L.Γ_a5 := ctxC_ok L.Γ_d4_ok L.d4_ok
def L.Δ_a5 : CtxO := L.Δ_d4
theorem L.Δ_a5_ok : SoundGO L.pg L.Δ_a5 := L.Δ_d4_ok
def L.a5_J1_B (i_ : Int) (code : Int) (Kn : Prop) (Kr : Int → Int → Prop) : Prop :=
  (bif (code != 0) then Kr code i_ else Kn)
structure L.a5_J1 (i_ : Int) (code : Int) (Kn : Prop) (Kr : Int → Int → Prop) : Prop where
  out : L.a5_J1_B i_ code Kn Kr
def L.a5_J1_d : CutD := { base := 1, vecs := [], flds := [], keep := [0, 4, 5, 7, 19, 20, 21], out := [0, 4, 19, 20, 21], rets := [4], ovecs := [], oflds := [], rv := [], rbase := 1 }
def L.a5_J1_ss : List Sh := [.int .i64, .cl 0 0, .int .i64, .int .i64, .ro L.ye, .int .i64, .int .i64]
def L.a5_J1_os : List OSh := [.cells [.int .i64, .int .i64]]
def L.a5_J1_G (vs : List V) (st : List Ob) (K : Ex → St) : Prop := L.a5_J1 (gI (gA vs 2)) (gI (gA vs 3)) (K .normal (bld [0, 4, 19, 20, 21] [.xi (gI (gA vs 0)), .cl 0 0, .ro L.ye (gR L.ye (gA vs 4)), .xi (gI (gA vs 5)), .xi (gI (gA vs 6))] 0 39) [.cells [.xi (cI st 0 0), .xi (cI st 0 1)]]) (fun q0_ q1_ => K .ret (bld [4] [.cl 0 0] 0 39) [.cells [.xi q0_, .xi q1_]])
def L.a5_J1_F (vs : List V) (st : List Ob) (K : Ex → St) : Prop := fitF L.a5_J1_ss L.a5_J1_os vs st (L.a5_J1_G vs st K)
theorem L.a5_J1_eq (n1 : Int) (i_ : Int) (code : Int) (v19 : L.yi) (v20 : Int) (v21 : Int) (m0 : Int) (m01 : Int) (K : Ex → St) : L.a5_J1_B i_ code (K .normal (bld [0, 4, 19, 20, 21] [.xi n1, .cl 0 0, .ro L.ye v19, .xi v20, .xi v21] 0 39) [.cells [.xi m0, .xi m01]]) (fun q0_ q1_ => K .ret (bld [4] [.cl 0 0] 0 39) [.cells [.xi q0_, .xi q1_]]) = exec L.pg (CC L.pg L.Γ_a5 L.Δ_a5) (drawD L.pg L.Γ_a5 L.Δ_a5) .leaf (sub [true, true, true, false, true, false, false, true, true, false, false, true, true, true] (codeOf Tryz.f11)) (bld L.a5_J1_d.keep [.xi n1, .cl 0 0, .xi i_, .xi code, .ro L.ye v19, .xi v20, .xi v21] 0 39) [.cells [.xi m0, .xi m01]] (cutK L.a5_J1_d K) := by
  kernel_rfl
theorem L.a5_J1_ok (vs : List V) (st : List Ob) (K : Ex → St) : Imp (L.a5_J1_G vs st K) (exec L.pg (CC L.pg L.Γ_a5 L.Δ_a5) (drawD L.pg L.Γ_a5 L.Δ_a5) .leaf (sub [true, true, true, false, true, false, false, true, true, false, false, true, true, true] (codeOf Tryz.f11)) (bld L.a5_J1_d.keep (mkL L.a5_J1_ss 0 vs) 0 39) (mkOs L.a5_J1_os 0 st) (cutK L.a5_J1_d K)) :=
  Imp.of (Eq.trans (b := exec L.pg (CC L.pg L.Γ_a5 L.Δ_a5) (drawD L.pg L.Γ_a5 L.Δ_a5) .leaf (sub [true, true, true, false, true, false, false, true, true, false, false, true, true, true] (codeOf Tryz.f11)) (bld L.a5_J1_d.keep [.xi (gI (gA vs 0)), .cl 0 0, .xi (gI (gA vs 2)), .xi (gI (gA vs 3)), .ro L.ye (gR L.ye (gA vs 4)), .xi (gI (gA vs 5)), .xi (gI (gA vs 6))] 0 39) [.cells [.xi (cI st 0 0), .xi (cI st 0 1)]] (cutK L.a5_J1_d K)) (by kernel_rfl) (Eq.symm (L.a5_J1_eq (gI (gA vs 0)) (gI (gA vs 2)) (gI (gA vs 3)) (gR L.ye (gA vs 4)) (gI (gA vs 5)) (gI (gA vs 6)) (cI st 0 0) (cI st 0 1) K))) fun h => (L.a5_J1.out h)
def L.a5_L1_b (n1 : Int) (v19 : L.yi) (v20 : Int) (v21 : Int) (self : Int → Prop) (Kx0 : Prop) (Kr : Int → Int → Prop) : Prop :=
  (bif (decide (v21 < v20)) then (inB v21 v19.length) ∧ L.d4 n1 (v19.getD v21.toNat []) (fun r => (bif (((v19.getD v21.toNat []).length : Int) == 0) then L.a5_J1 v21 9 (self (i64 (v21 + 1))) Kr else L.a5_J1 v21 r (self (i64 (v21 + 1))) Kr)) else Kx0)
def L.a5_L1_R (n1 : Int) (v19 : L.yi) (v20 : Int) : Nat → Int → (Prop) → (Int → Int → Prop) → Prop
  | 0, _, _, _ => False
  | fu + 1, v21, Kx0, Kr => L.a5_L1_b n1 v19 v20 v21 (fun v21 => L.a5_L1_R n1 v19 v20 fu v21 Kx0 Kr) Kx0 Kr
structure L.a5_L1 (n1 : Int) (v19 : L.yi) (v20 : Int) (v21 : Int) (Kx0 : Prop) (Kr : Int → Int → Prop) : Prop where
  out : ∃ fu, L.a5_L1_R n1 v19 v20 fu v21 Kx0 Kr
def L.a5_L1_d : LoopD := { base := 1, vecs := [], flds := [], keep := [0, 4, 19, 20, 21], out := [4], rets := [4], rv := [], rbase := 0 }
def L.a5_L1_ss : List Sh := [.int .i64, .cl 0 0, .ro L.ye, .int .i64, .int .i64]
def L.a5_L1_os : List OSh := [.cells [.int .i64, .int .i64]]
def L.a5_L1_G (vs : List V) (st : List Ob) (K : Ex → St) : Prop := L.a5_L1 (gI (gA vs 0)) (gR L.ye (gA vs 2)) (gI (gA vs 3)) (gI (gA vs 4)) (K (.exit 0) (bld [4] [.cl 0 0] 0 39) [.cells [.xi (cI st 0 0), .xi (cI st 0 1)]]) (fun q0_ q1_ => K .ret (bld [4] [.cl 0 0] 0 39) [.cells [.xi q0_, .xi q1_]])
def L.a5_L1_F (vs : List V) (st : List Ob) (K : Ex → St) : Prop := fitF L.a5_L1_ss L.a5_L1_os vs st (L.a5_L1_G vs st K)
theorem L.a5_L1_eq (n1 : Int) (v19 : L.yi) (v20 : Int) (m0 : Int) (m01 : Int) (K : Ex → St) : ∀ (fu : Nat) (v21 : Int), L.a5_L1_R n1 v19 v20 fu v21 (K (.exit 0) (bld [4] [.cl 0 0] 0 39) [.cells [.xi m0, .xi m01]]) (fun q0_ q1_ => K .ret (bld [4] [.cl 0 0] 0 39) [.cells [.xi q0_, .xi q1_]]) = iterL (stepL (exec L.pg (CC L.pg L.Γ_a5 L.Δ_a5) (drawD L.pg L.Γ_a5 L.Δ_a5) (.node .leaf (.node .leaf (.node (.node .leaf (.node .leaf (.cut .leaf L.a5_J1_d 39 L.a5_J1_F))) .leaf))) (sub [true, true, true, false, true, false, false] (codeOf Tryz.f11))) 1 L.a5_L1_d K) fu (bld L.a5_L1_d.keep [.xi n1, .cl 0 0, .ro L.ye v19, .xi v20, .xi v21] 0 39) [.cells [.xi m0, .xi m01]] := by
  intro fu
  induction fu with
  | zero => intros; rfl
  | succ fu ih =>
    intro v21
    have e : (fun v21 => L.a5_L1_R n1 v19 v20 fu v21 (K (.exit 0) (bld [4] [.cl 0 0] 0 39) [.cells [.xi m0, .xi m01]]) (fun q0_ q1_ => K .ret (bld [4] [.cl 0 0] 0 39) [.cells [.xi q0_, .xi q1_]])) = fun v21 => iterL (stepL (exec L.pg (CC L.pg L.Γ_a5 L.Δ_a5) (drawD L.pg L.Γ_a5 L.Δ_a5) (.node .leaf (.node .leaf (.node (.node .leaf (.node .leaf (.cut .leaf L.a5_J1_d 39 L.a5_J1_F))) .leaf))) (sub [true, true, true, false, true, false, false] (codeOf Tryz.f11))) 1 L.a5_L1_d K) fu (bld L.a5_L1_d.keep [.xi n1, .cl 0 0, .ro L.ye v19, .xi v20, .xi v21] 0 39) [.cells [.xi m0, .xi m01]] := by
      funext v21; exact ih v21
    show L.a5_L1_b n1 v19 v20 v21 (fun v21 => L.a5_L1_R n1 v19 v20 fu v21 (K (.exit 0) (bld [4] [.cl 0 0] 0 39) [.cells [.xi m0, .xi m01]]) (fun q0_ q1_ => K .ret (bld [4] [.cl 0 0] 0 39) [.cells [.xi q0_, .xi q1_]])) (K (.exit 0) (bld [4] [.cl 0 0] 0 39) [.cells [.xi m0, .xi m01]]) (fun q0_ q1_ => K .ret (bld [4] [.cl 0 0] 0 39) [.cells [.xi q0_, .xi q1_]]) = _
    rw [e]
    kernel_rfl
theorem L.a5_L1_imp (vs : List V) (st : List Ob) (K : Ex → St) (h : L.a5_L1_G vs st K) : ∃ fu, iterL (stepL (exec L.pg (CC L.pg L.Γ_a5 L.Δ_a5) (drawD L.pg L.Γ_a5 L.Δ_a5) (.node .leaf (.node .leaf (.node (.node .leaf (.node .leaf (.cut .leaf L.a5_J1_d 39 L.a5_J1_F))) .leaf))) (sub [true, true, true, false, true, false, false] (codeOf Tryz.f11))) 1 L.a5_L1_d K) fu (bld L.a5_L1_d.keep (mkL L.a5_L1_ss 0 vs) 0 39) (mkOs L.a5_L1_os 0 st) :=
  exMap (fun fu h => @Eq.mp _ _ (Eq.trans (L.a5_L1_eq (gI (gA vs 0)) (gR L.ye (gA vs 2)) (gI (gA vs 3)) (cI st 0 0) (cI st 0 1) K fu (gI (gA vs 4))) (by kernel_rfl)) h) (L.a5_L1.out h)
theorem L.a5_L1_ok : AnnOk L.pg (CC L.pg L.Γ_a5 L.Δ_a5) (drawD L.pg L.Γ_a5 L.Δ_a5) 0 (.lift L.a5_L1_d 39 L.a5_L1_F) (.loop (sub [true, true, true, false, true, false, false] (codeOf Tryz.f11))) :=
  lift_ok (an := (.node .leaf (.node .leaf (.node (.node .leaf (.node .leaf (.cut .leaf L.a5_J1_d 39 L.a5_J1_F))) .leaf)))) (ss := L.a5_L1_ss) (os := L.a5_L1_os) (G := L.a5_L1_G) rfl (Nat.le_of_ble_eq_true rfl) ⟨(annOk_leaf _), ⟨(annOk_leaf _), ⟨⟨(annOk_leaf _), ⟨(annOk_leaf _), (cut_ok (ay := .leaf) (ss := L.a5_J1_ss) (os := L.a5_J1_os) (G := L.a5_J1_G) rfl (annOk_leaf _) (Nat.le_of_ble_eq_true rfl) (Nat.le_of_ble_eq_true rfl) (annOk_leaf _) L.a5_J1_ok)⟩⟩, (annOk_leaf _)⟩⟩⟩ (L.a5_L1_imp)
def L.a5_B (n : Int) (culprits : L.yi) (K : Int → Int → Prop) : Prop :=
  (bif (bif (decide (n < 0)) then true else (decide (n > 16))) then K 3 (-1) else (bif (decide ((culprits.length : Int) > 8)) then K 2 (-1) else L.a5_L1 n culprits (culprits.length : Int) 0 (K 0 0) (fun m m1 => K m m1)))
structure L.a5 (n : Int) (culprits : L.yi) (K : Int → Int → Prop) : Prop where
  out : L.a5_B n culprits K
def L.a5_ss : List Sh := [.int .i64, .ro L.ye]
def L.a5_G (vs : List V) (K : V → List Ob → Prop) : Prop := L.a5 (gI (gA vs 0)) (gR L.ye (gA vs 1)) (fun r0 r1 => K (.agg [.xi r0, .xi r1]) [])
def L.a5_S : SemF := fun args K => argF L.a5_ss args fun a => L.a5_G a K
theorem L.a5_eq (n : Int) (culprits : L.yi) (K : V → List Ob → Prop) : run L.pg L.Γ_a5 L.Δ_a5 (.node .leaf (.node .leaf (.node .leaf (.node (.node .leaf (.lift L.a5_L1_d 39 L.a5_L1_F)) .leaf)))) .any Tryz.f11 [.xi n, .ro L.ye culprits] K = L.a5_B n culprits (fun r0 r1 => K (.agg [.xi r0, .xi r1]) []) := by
  kernel_rfl
theorem L.a5_imp (vs : List V) (K : V → List Ob → Prop) : Imp (L.a5_G vs K) (run L.pg L.Γ_a5 L.Δ_a5 (.node .leaf (.node .leaf (.node .leaf (.node (.node .leaf (.lift L.a5_L1_d 39 L.a5_L1_F)) .leaf)))) .any Tryz.f11 (mkL L.a5_ss 0 vs) K) :=
  Imp.of (Eq.trans (b := run L.pg L.Γ_a5 L.Δ_a5 (.node .leaf (.node .leaf (.node .leaf (.node (.node .leaf (.lift L.a5_L1_d 39 L.a5_L1_F)) .leaf)))) .any Tryz.f11 [.xi (gI (gA vs 0)), .ro L.ye (gR L.ye (gA vs 1))] K) (by kernel_rfl) (L.a5_eq (gI (gA vs 0)) (gR L.ye (gA vs 1)) K)) fun h => (L.a5.out h)
theorem L.a5_ok : SoundFn L.pg 11 L.a5_S :=
  fn_ok (sem := run L.pg L.Γ_a5 L.Δ_a5 (.node .leaf (.node .leaf (.node .leaf (.node (.node .leaf (.lift L.a5_L1_d 39 L.a5_L1_F)) .leaf)))) .any Tryz.f11) (ss := L.a5_ss) (G := L.a5_G) (run_ok L.Γ_a5_ok L.Δ_a5_ok Tryz.func11 (ann := (.node .leaf (.node .leaf (.node .leaf (.node (.node .leaf (.lift L.a5_L1_d 39 L.a5_L1_F)) .leaf))))) ⟨(annOk_leaf _), ⟨(annOk_leaf _), ⟨(annOk_leaf _), ⟨⟨(annOk_leaf _), L.a5_L1_ok⟩, (annOk_leaf _)⟩⟩⟩⟩) L.a5_imp
def L.Γ_h2 : Ctx := ctxC L.Γ_a5 11 L.a5_S
theorem L.Γ_h2_ok : SoundG L.pg L.Γ_h2 := ctxC_ok L.Γ_a5_ok L.a5_ok
def L.Δ_h2 : CtxO := L.Δ_a5
theorem L.Δ_h2_ok : SoundGO L.pg L.Δ_h2 := L.Δ_a5_ok
def L.h2_B (k : Int) (c : Int) (c1 : (List Int)) (K : Bool → Prop) : Prop :=
  (bif (decide (k < c)) then K true else L.f1 c1 k (fun r => K (bif false then true else r)))
structure L.h2 (k : Int) (c : Int) (c1 : (List Int)) (K : Bool → Prop) : Prop where
  out : L.h2_B k c c1 K
def L.h2_ss : List Sh := [.int .i64, .rc [.int .i64] 0, .rc [.ro (.int .i64)] 0]
def L.h2_G (vs : List V) (K : V → List Ob → Prop) : Prop := L.h2 (gI (gA vs 0)) (gI ((gC (gA vs 1)).getD 0 .any)) (gR (.int .i64) ((gC (gA vs 2)).getD 0 .any)) (fun r0 => K (.x (.bool r0)) [])
def L.h2_S : SemF := fun args K => argF L.h2_ss args fun a => L.h2_G a K
theorem L.h2_eq (k : Int) (c : Int) (c1 : (List Int)) (K : V → List Ob → Prop) : run L.pg L.Γ_h2 L.Δ_h2 .leaf .any Tryz.f23 [.xi k, .rc [.xi c] 0, .rc [.ro (.int .i64) c1] 0] K = L.h2_B k c c1 (fun r0 => K (.x (.bool r0)) []) := by
  kernel_rfl
theorem L.h2_imp (vs : List V) (K : V → List Ob → Prop) : Imp (L.h2_G vs K) (run L.pg L.Γ_h2 L.Δ_h2 .leaf .any Tryz.f23 (mkL L.h2_ss 0 vs) K) :=
  Imp.of (Eq.trans (b := run L.pg L.Γ_h2 L.Δ_h2 .leaf .any Tryz.f23 [.xi (gI (gA vs 0)), .rc [.xi (gI ((gC (gA vs 1)).getD 0 .any))] 0, .rc [.ro (.int .i64) (gR (.int .i64) ((gC (gA vs 2)).getD 0 .any))] 0] K) (by kernel_rfl) (L.h2_eq (gI (gA vs 0)) (gI ((gC (gA vs 1)).getD 0 .any)) (gR (.int .i64) ((gC (gA vs 2)).getD 0 .any)) K)) fun h => (L.h2.out h)
theorem L.h2_ok : SoundFn L.pg 23 L.h2_S :=
  fn_ok (sem := run L.pg L.Γ_h2 L.Δ_h2 .leaf .any Tryz.f23) (ss := L.h2_ss) (G := L.h2_G) (run_ok L.Γ_h2_ok L.Δ_h2_ok Tryz.func23 (ann := .leaf) (annOk_leaf _)) L.h2_imp
def L.Γ_h3 : Ctx := ctxA L.Γ_h2 23 L.h2_ss L.h2_G
theorem L.Γ_h3_ok : SoundG L.pg L.Γ_h3 := ctxA_ok L.Γ_h2_ok L.h2_ok
def L.Δ_h3 : CtxO := L.Δ_h2
theorem L.Δ_h3_ok : SoundGO L.pg L.Δ_h3 := L.Δ_h2_ok
def L.h3_B (k : Int) (c : Int) (c1 : (List Int)) (K : Bool → Prop) : Prop :=
  L.h2 k c c1 (fun r => K (!r))
structure L.h3 (k : Int) (c : Int) (c1 : (List Int)) (K : Bool → Prop) : Prop where
  out : L.h3_B k c c1 K
def L.h3_ss : List Sh := [.int .i64, .rc [.fn 23 [] [.rc [.int .i64] 0, .rc [.ro (.int .i64)] 0]] 0]
def L.h3_G (vs : List V) (K : V → List Ob → Prop) : Prop := L.h3 (gI (gA vs 0)) (gI ((gC ((gFc ((gC (gA vs 1)).getD 0 .any)).getD 0 .any)).getD 0 .any)) (gR (.int .i64) ((gC ((gFc ((gC (gA vs 1)).getD 0 .any)).getD 1 .any)).getD 0 .any)) (fun r0 => K (.x (.bool r0)) [])
def L.h3_S : SemF := fun args K => argF L.h3_ss args fun a => L.h3_G a K
theorem L.h3_eq (k : Int) (c : Int) (c1 : (List Int)) (K : V → List Ob → Prop) : run L.pg L.Γ_h3 L.Δ_h3 .leaf .any Tryz.f40 [.xi k, .rc [.fn (.func 23) [] [.rc [.xi c] 0, .rc [.ro (.int .i64) c1] 0]] 0] K = L.h3_B k c c1 (fun r0 => K (.x (.bool r0)) []) := by
  kernel_rfl
theorem L.h3_imp (vs : List V) (K : V → List Ob → Prop) : Imp (L.h3_G vs K) (run L.pg L.Γ_h3 L.Δ_h3 .leaf .any Tryz.f40 (mkL L.h3_ss 0 vs) K) :=
  Imp.of (Eq.trans (b := run L.pg L.Γ_h3 L.Δ_h3 .leaf .any Tryz.f40 [.xi (gI (gA vs 0)), .rc [.fn (.func 23) [] [.rc [.xi (gI ((gC ((gFc ((gC (gA vs 1)).getD 0 .any)).getD 0 .any)).getD 0 .any))] 0, .rc [.ro (.int .i64) (gR (.int .i64) ((gC ((gFc ((gC (gA vs 1)).getD 0 .any)).getD 1 .any)).getD 0 .any))] 0]] 0] K) (by kernel_rfl) (L.h3_eq (gI (gA vs 0)) (gI ((gC ((gFc ((gC (gA vs 1)).getD 0 .any)).getD 0 .any)).getD 0 .any)) (gR (.int .i64) ((gC ((gFc ((gC (gA vs 1)).getD 0 .any)).getD 1 .any)).getD 0 .any)) K)) fun h => (L.h3.out h)
theorem L.h3_ok : SoundFn L.pg 40 L.h3_S :=
  fn_ok (sem := run L.pg L.Γ_h3 L.Δ_h3 .leaf .any Tryz.f40) (ss := L.h3_ss) (G := L.h3_G) (run_ok L.Γ_h3_ok L.Δ_h3_ok Tryz.func40 (ann := .leaf) (annOk_leaf _)) L.h3_imp
def L.Γ_c6 : Ctx := ctxA L.Γ_h3 40 L.h3_ss L.h3_G
theorem L.Γ_c6_ok : SoundG L.pg L.Γ_c6 := ctxA_ok L.Γ_h3_ok L.h3_ok
def L.Δ_c6 : CtxO := L.Δ_h3
theorem L.Δ_c6_ok : SoundGO L.pg L.Δ_c6 := L.Δ_h3_ok
def L.c6_L1_b (s1 : (List Int)) (f2 : Int) (f3 : (List Int)) (v7 : Int) (v8 : Int) (self : Int → Prop) (Kx0 : Prop) (Kr : Int → Prop) : Prop :=
  (bif (decide (v8 < v7)) then (inB v8 s1.length) ∧ L.h3 (s1.getD v8.toNat 0) f2 f3 (fun r => (bif r then Kr v8 else self (i64 (v8 + 1)))) else Kx0)
def L.c6_L1_R (s1 : (List Int)) (f2 : Int) (f3 : (List Int)) (v7 : Int) : Nat → Int → (Prop) → (Int → Prop) → Prop
  | 0, _, _, _ => False
  | fu + 1, v8, Kx0, Kr => L.c6_L1_b s1 f2 f3 v7 v8 (fun v8 => L.c6_L1_R s1 f2 f3 v7 fu v8 Kx0 Kr) Kx0 Kr
structure L.c6_L1 (s1 : (List Int)) (f2 : Int) (f3 : (List Int)) (v7 : Int) (v8 : Int) (Kx0 : Prop) (Kr : Int → Prop) : Prop where
  out : ∃ fu, L.c6_L1_R s1 f2 f3 v7 fu v8 Kx0 Kr
def L.c6_L1_d : LoopD := { base := 0, vecs := [], flds := [], keep := [0, 1, 7, 8], out := [], rets := [4], rv := [], rbase := 0 }
def L.c6_L1_ss : List Sh := [.ro (.int .i64), .fn 40 [] [.rc [.fn 23 [] [.rc [.int .i64] 0, .rc [.ro (.int .i64)] 0]] 0], .int .i64, .int .i64]
def L.c6_L1_os : List OSh := []
def L.c6_L1_G (vs : List V) (st : List Ob) (K : Ex → St) : Prop := L.c6_L1 (gR (.int .i64) (gA vs 0)) (gI ((gC ((gFc ((gC ((gFc (gA vs 1)).getD 0 .any)).getD 0 .any)).getD 0 .any)).getD 0 .any)) (gR (.int .i64) ((gC ((gFc ((gC ((gFc (gA vs 1)).getD 0 .any)).getD 0 .any)).getD 1 .any)).getD 0 .any)) (gI (gA vs 2)) (gI (gA vs 3)) (K (.exit 0) (bld [] [] 0 19) []) (fun q0_ => K .ret (bld [4] [.xi q0_] 0 19) [])
def L.c6_L1_F (vs : List V) (st : List Ob) (K : Ex → St) : Prop := fitF L.c6_L1_ss L.c6_L1_os vs st (L.c6_L1_G vs st K)
theorem L.c6_L1_eq (s1 : (List Int)) (f2 : Int) (f3 : (List Int)) (v7 : Int) (K : Ex → St) : ∀ (fu : Nat) (v8 : Int), L.c6_L1_R s1 f2 f3 v7 fu v8 (K (.exit 0) (bld [] [] 0 19) []) (fun q0_ => K .ret (bld [4] [.xi q0_] 0 19) []) = iterL (stepL (exec L.pg (CC L.pg L.Γ_c6 L.Δ_c6) (drawD L.pg L.Γ_c6 L.Δ_c6) .leaf (sub [true, false, true, false, false] (codeOf Tryz.f54))) 0 L.c6_L1_d K) fu (bld L.c6_L1_d.keep [.ro (.int .i64) s1, .fn (.func 40) [] [.rc [.fn (.func 23) [] [.rc [.xi f2] 0, .rc [.ro (.int .i64) f3] 0]] 0], .xi v7, .xi v8] 0 19) [] := by
  intro fu
  induction fu with
  | zero => intros; rfl
  | succ fu ih =>
    intro v8
    have e : (fun v8 => L.c6_L1_R s1 f2 f3 v7 fu v8 (K (.exit 0) (bld [] [] 0 19) []) (fun q0_ => K .ret (bld [4] [.xi q0_] 0 19) [])) = fun v8 => iterL (stepL (exec L.pg (CC L.pg L.Γ_c6 L.Δ_c6) (drawD L.pg L.Γ_c6 L.Δ_c6) .leaf (sub [true, false, true, false, false] (codeOf Tryz.f54))) 0 L.c6_L1_d K) fu (bld L.c6_L1_d.keep [.ro (.int .i64) s1, .fn (.func 40) [] [.rc [.fn (.func 23) [] [.rc [.xi f2] 0, .rc [.ro (.int .i64) f3] 0]] 0], .xi v7, .xi v8] 0 19) [] := by
      funext v8; exact ih v8
    show L.c6_L1_b s1 f2 f3 v7 v8 (fun v8 => L.c6_L1_R s1 f2 f3 v7 fu v8 (K (.exit 0) (bld [] [] 0 19) []) (fun q0_ => K .ret (bld [4] [.xi q0_] 0 19) [])) (K (.exit 0) (bld [] [] 0 19) []) (fun q0_ => K .ret (bld [4] [.xi q0_] 0 19) []) = _
    rw [e]
    kernel_rfl
theorem L.c6_L1_imp (vs : List V) (st : List Ob) (K : Ex → St) (h : L.c6_L1_G vs st K) : ∃ fu, iterL (stepL (exec L.pg (CC L.pg L.Γ_c6 L.Δ_c6) (drawD L.pg L.Γ_c6 L.Δ_c6) .leaf (sub [true, false, true, false, false] (codeOf Tryz.f54))) 0 L.c6_L1_d K) fu (bld L.c6_L1_d.keep (mkL L.c6_L1_ss 0 vs) 0 19) (mkOs L.c6_L1_os 0 st) :=
  exMap (fun fu h => @Eq.mp _ _ (Eq.trans (L.c6_L1_eq (gR (.int .i64) (gA vs 0)) (gI ((gC ((gFc ((gC ((gFc (gA vs 1)).getD 0 .any)).getD 0 .any)).getD 0 .any)).getD 0 .any)) (gR (.int .i64) ((gC ((gFc ((gC ((gFc (gA vs 1)).getD 0 .any)).getD 0 .any)).getD 1 .any)).getD 0 .any)) (gI (gA vs 2)) K fu (gI (gA vs 3))) (by kernel_rfl)) h) (L.c6_L1.out h)
theorem L.c6_L1_ok : AnnOk L.pg (CC L.pg L.Γ_c6 L.Δ_c6) (drawD L.pg L.Γ_c6 L.Δ_c6) 0 (.lift L.c6_L1_d 19 L.c6_L1_F) (.loop (sub [true, false, true, false, false] (codeOf Tryz.f54))) :=
  lift_ok (an := .leaf) (ss := L.c6_L1_ss) (os := L.c6_L1_os) (G := L.c6_L1_G) rfl (Nat.le_of_ble_eq_true rfl) (annOk_leaf _) (L.c6_L1_imp)
def L.c6_B (s : (List Int)) (f : Int) (f1 : (List Int)) (K : Int → Prop) : Prop :=
  L.c6_L1 s f f1 (s.length : Int) 0 (K (-1)) (fun r => K r)
structure L.c6 (s : (List Int)) (f : Int) (f1 : (List Int)) (K : Int → Prop) : Prop where
  out : L.c6_B s f f1 K
def L.c6_ss : List Sh := [.ro (.int .i64), .fn 40 [] [.rc [.fn 23 [] [.rc [.int .i64] 0, .rc [.ro (.int .i64)] 0]] 0]]
def L.c6_G (vs : List V) (K : V → List Ob → Prop) : Prop := L.c6 (gR (.int .i64) (gA vs 0)) (gI ((gC ((gFc ((gC ((gFc (gA vs 1)).getD 0 .any)).getD 0 .any)).getD 0 .any)).getD 0 .any)) (gR (.int .i64) ((gC ((gFc ((gC ((gFc (gA vs 1)).getD 0 .any)).getD 0 .any)).getD 1 .any)).getD 0 .any)) (fun r0 => K (.xi r0) [])
def L.c6_S : SemF := fun args K => argF L.c6_ss args fun a => L.c6_G a K
theorem L.c6_eq (s : (List Int)) (f : Int) (f1 : (List Int)) (K : V → List Ob → Prop) : run L.pg L.Γ_c6 L.Δ_c6 (.node .leaf (.node (.node .leaf (.lift L.c6_L1_d 19 L.c6_L1_F)) .leaf)) .any Tryz.f54 [.ro (.int .i64) s, .fn (.func 40) [] [.rc [.fn (.func 23) [] [.rc [.xi f] 0, .rc [.ro (.int .i64) f1] 0]] 0]] K = L.c6_B s f f1 (fun r0 => K (.xi r0) []) := by
  kernel_rfl
theorem L.c6_imp (vs : List V) (K : V → List Ob → Prop) : Imp (L.c6_G vs K) (run L.pg L.Γ_c6 L.Δ_c6 (.node .leaf (.node (.node .leaf (.lift L.c6_L1_d 19 L.c6_L1_F)) .leaf)) .any Tryz.f54 (mkL L.c6_ss 0 vs) K) :=
  Imp.of (Eq.trans (b := run L.pg L.Γ_c6 L.Δ_c6 (.node .leaf (.node (.node .leaf (.lift L.c6_L1_d 19 L.c6_L1_F)) .leaf)) .any Tryz.f54 [.ro (.int .i64) (gR (.int .i64) (gA vs 0)), .fn (.func 40) [] [.rc [.fn (.func 23) [] [.rc [.xi (gI ((gC ((gFc ((gC ((gFc (gA vs 1)).getD 0 .any)).getD 0 .any)).getD 0 .any)).getD 0 .any))] 0, .rc [.ro (.int .i64) (gR (.int .i64) ((gC ((gFc ((gC ((gFc (gA vs 1)).getD 0 .any)).getD 0 .any)).getD 1 .any)).getD 0 .any))] 0]] 0]] K) (by kernel_rfl) (L.c6_eq (gR (.int .i64) (gA vs 0)) (gI ((gC ((gFc ((gC ((gFc (gA vs 1)).getD 0 .any)).getD 0 .any)).getD 0 .any)).getD 0 .any)) (gR (.int .i64) ((gC ((gFc ((gC ((gFc (gA vs 1)).getD 0 .any)).getD 0 .any)).getD 1 .any)).getD 0 .any)) K)) fun h => (L.c6.out h)
theorem L.c6_ok : SoundFn L.pg 54 L.c6_S :=
  fn_ok (sem := run L.pg L.Γ_c6 L.Δ_c6 (.node .leaf (.node (.node .leaf (.lift L.c6_L1_d 19 L.c6_L1_F)) .leaf)) .any Tryz.f54) (ss := L.c6_ss) (G := L.c6_G) (run_ok L.Γ_c6_ok L.Δ_c6_ok Tryz.func54 (ann := (.node .leaf (.node (.node .leaf (.lift L.c6_L1_d 19 L.c6_L1_F)) .leaf))) ⟨(annOk_leaf _), ⟨⟨(annOk_leaf _), L.c6_L1_ok⟩, (annOk_leaf _)⟩⟩) L.c6_imp
def L.Γ_g8 : Ctx := ctxA L.Γ_c6 54 L.c6_ss L.c6_G
theorem L.Γ_g8_ok : SoundG L.pg L.Γ_g8 := ctxA_ok L.Γ_c6_ok L.c6_ok
def L.Δ_g8 : CtxO := L.Δ_c6
theorem L.Δ_g8_ok : SoundGO L.pg L.Δ_g8 := L.Δ_c6_ok
def L.g8_B (s : (List Int)) (f : Int) (f1 : (List Int)) (K : Bool → Prop) : Prop :=
  L.c6 s f f1 (fun r => K (decide (r ≥ 0)))
structure L.g8 (s : (List Int)) (f : Int) (f1 : (List Int)) (K : Bool → Prop) : Prop where
  out : L.g8_B s f f1 K
def L.g8_ss : List Sh := [.ro (.int .i64), .fn 40 [] [.rc [.fn 23 [] [.rc [.int .i64] 0, .rc [.ro (.int .i64)] 0]] 0]]
def L.g8_G (vs : List V) (K : V → List Ob → Prop) : Prop := L.g8 (gR (.int .i64) (gA vs 0)) (gI ((gC ((gFc ((gC ((gFc (gA vs 1)).getD 0 .any)).getD 0 .any)).getD 0 .any)).getD 0 .any)) (gR (.int .i64) ((gC ((gFc ((gC ((gFc (gA vs 1)).getD 0 .any)).getD 0 .any)).getD 1 .any)).getD 0 .any)) (fun r0 => K (.x (.bool r0)) [])
def L.g8_S : SemF := fun args K => argF L.g8_ss args fun a => L.g8_G a K
theorem L.g8_eq (s : (List Int)) (f : Int) (f1 : (List Int)) (K : V → List Ob → Prop) : run L.pg L.Γ_g8 L.Δ_g8 .leaf .any Tryz.f39 [.ro (.int .i64) s, .fn (.func 40) [] [.rc [.fn (.func 23) [] [.rc [.xi f] 0, .rc [.ro (.int .i64) f1] 0]] 0]] K = L.g8_B s f f1 (fun r0 => K (.x (.bool r0)) []) := by
  kernel_rfl
theorem L.g8_imp (vs : List V) (K : V → List Ob → Prop) : Imp (L.g8_G vs K) (run L.pg L.Γ_g8 L.Δ_g8 .leaf .any Tryz.f39 (mkL L.g8_ss 0 vs) K) :=
  Imp.of (Eq.trans (b := run L.pg L.Γ_g8 L.Δ_g8 .leaf .any Tryz.f39 [.ro (.int .i64) (gR (.int .i64) (gA vs 0)), .fn (.func 40) [] [.rc [.fn (.func 23) [] [.rc [.xi (gI ((gC ((gFc ((gC ((gFc (gA vs 1)).getD 0 .any)).getD 0 .any)).getD 0 .any)).getD 0 .any))] 0, .rc [.ro (.int .i64) (gR (.int .i64) ((gC ((gFc ((gC ((gFc (gA vs 1)).getD 0 .any)).getD 0 .any)).getD 1 .any)).getD 0 .any))] 0]] 0]] K) (by kernel_rfl) (L.g8_eq (gR (.int .i64) (gA vs 0)) (gI ((gC ((gFc ((gC ((gFc (gA vs 1)).getD 0 .any)).getD 0 .any)).getD 0 .any)).getD 0 .any)) (gR (.int .i64) ((gC ((gFc ((gC ((gFc (gA vs 1)).getD 0 .any)).getD 0 .any)).getD 1 .any)).getD 0 .any)) K)) fun h => (L.g8.out h)
theorem L.g8_ok : SoundFn L.pg 39 L.g8_S :=
  fn_ok (sem := run L.pg L.Γ_g8 L.Δ_g8 .leaf .any Tryz.f39) (ss := L.g8_ss) (G := L.g8_G) (run_ok L.Γ_g8_ok L.Δ_g8_ok Tryz.func39 (ann := .leaf) (annOk_leaf _)) L.g8_imp
def L.Γ_f4 : Ctx := ctxA L.Γ_g8 39 L.g8_ss L.g8_G
theorem L.Γ_f4_ok : SoundG L.pg L.Γ_f4 := ctxA_ok L.Γ_g8_ok L.g8_ok
def L.Δ_f4 : CtxO := L.Δ_g8
theorem L.Δ_f4_ok : SoundGO L.pg L.Δ_f4 := L.Δ_g8_ok
def L.f4_B (set : (List Int)) (c : Int) (c1 : (List Int)) (K : Bool → Prop) : Prop :=
  L.g8 set c c1 (fun r => K (!r))
structure L.f4 (set : (List Int)) (c : Int) (c1 : (List Int)) (K : Bool → Prop) : Prop where
  out : L.f4_B set c c1 K
def L.f4_ss : List Sh := [.ro (.int .i64), .rc [.fn 23 [] [.rc [.int .i64] 0, .rc [.ro (.int .i64)] 0]] 0]
def L.f4_G (vs : List V) (K : V → List Ob → Prop) : Prop := L.f4 (gR (.int .i64) (gA vs 0)) (gI ((gC ((gFc ((gC (gA vs 1)).getD 0 .any)).getD 0 .any)).getD 0 .any)) (gR (.int .i64) ((gC ((gFc ((gC (gA vs 1)).getD 0 .any)).getD 1 .any)).getD 0 .any)) (fun r0 => K (.x (.bool r0)) [])
def L.f4_S : SemF := fun args K => argF L.f4_ss args fun a => L.f4_G a K
theorem L.f4_eq (set : (List Int)) (c : Int) (c1 : (List Int)) (K : V → List Ob → Prop) : run L.pg L.Γ_f4 L.Δ_f4 .leaf .any Tryz.f38 [.ro (.int .i64) set, .rc [.fn (.func 23) [] [.rc [.xi c] 0, .rc [.ro (.int .i64) c1] 0]] 0] K = L.f4_B set c c1 (fun r0 => K (.x (.bool r0)) []) := by
  kernel_rfl
theorem L.f4_imp (vs : List V) (K : V → List Ob → Prop) : Imp (L.f4_G vs K) (run L.pg L.Γ_f4 L.Δ_f4 .leaf .any Tryz.f38 (mkL L.f4_ss 0 vs) K) :=
  Imp.of (Eq.trans (b := run L.pg L.Γ_f4 L.Δ_f4 .leaf .any Tryz.f38 [.ro (.int .i64) (gR (.int .i64) (gA vs 0)), .rc [.fn (.func 23) [] [.rc [.xi (gI ((gC ((gFc ((gC (gA vs 1)).getD 0 .any)).getD 0 .any)).getD 0 .any))] 0, .rc [.ro (.int .i64) (gR (.int .i64) ((gC ((gFc ((gC (gA vs 1)).getD 0 .any)).getD 1 .any)).getD 0 .any))] 0]] 0] K) (by kernel_rfl) (L.f4_eq (gR (.int .i64) (gA vs 0)) (gI ((gC ((gFc ((gC (gA vs 1)).getD 0 .any)).getD 0 .any)).getD 0 .any)) (gR (.int .i64) ((gC ((gFc ((gC (gA vs 1)).getD 0 .any)).getD 1 .any)).getD 0 .any)) K)) fun h => (L.f4.out h)
theorem L.f4_ok : SoundFn L.pg 38 L.f4_S :=
  fn_ok (sem := run L.pg L.Γ_f4 L.Δ_f4 .leaf .any Tryz.f38) (ss := L.f4_ss) (G := L.f4_G) (run_ok L.Γ_f4_ok L.Δ_f4_ok Tryz.func38 (ann := .leaf) (annOk_leaf _)) L.f4_imp
end Go.Proofs.YtnpjonhoihbaeaaGreatDoor

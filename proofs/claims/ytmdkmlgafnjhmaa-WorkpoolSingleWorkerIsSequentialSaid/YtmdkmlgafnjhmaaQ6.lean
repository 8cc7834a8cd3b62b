/-
 Part 6 of the proof of a law. Conditions: none.
-/
import Derived.Test.YtmdkmlgafnjhmaaQ5
import Derived.Test.YtmdkmlgafnjhmaaProg
set_option linter.unusedVariables false
set_option maxRecDepth 100000
namespace Go.Proofs.Ytmdkmlgafnjhmaa
open Eng
noncomputable abbrev L.pg : Program := Try.prog
noncomputable abbrev L.ex (Γ : Ctx) (Δ : CtxO) := exec L.pg (CC L.pg Γ Δ) (drawD L.pg Γ Δ)
def gA (vs : List V) (i : Nat) : V := vs.getD i .any
def gD (st : List Ob) (i : Nat) : Ob := st.getD i .dead
abbrev L.ya : Ty := .slice (.int .i64)
def L.Γ_b6 : Ctx := ctx0
theorem L.Γ_b6_ok : SoundG L.pg L.Γ_b6 := ctx0_ok
def L.Δ_b6 : CtxO := ctxO0
theorem L.Δ_b6_ok : SoundGO L.pg L.Δ_b6 := ctxO0_ok
def L.b6_B (n : Int) (K : Bool -> Prop) : Prop :=
 K (bif (decide (n < 0)) then true else (decide (n > 1000000000)))
structure L.b6 (n : Int) (K : Bool -> Prop) : Prop where
 out : L.b6_B n K
def L.b6_ss : List Sh := [.int .i64]
def L.b6_G (vs : List V) (K : V -> List Ob -> Prop) : Prop := L.b6 (gI (gA vs 0)) (fun r0 => K (.x (.bool r0)) [])
def L.b6_S : SemF := fun args K => argF L.b6_ss args fun a => L.b6_G a K
noncomputable abbrev L.b6_N : SemF := run L.pg L.Γ_b6 L.Δ_b6 .leaf .any Try.f41
theorem L.b6_eq (n : Int) (K : V -> List Ob -> Prop) : L.b6_N [.xi n] K = L.b6_B n (fun r0 => K (.x (.bool r0)) []) := by
 kernel_rfl
theorem L.b6_imp (vs : List V) (K : V -> List Ob -> Prop) : Imp (L.b6_G vs K) (L.b6_N (mkL L.b6_ss 0 vs) K) :=
 Imp.of (Eq.trans (b := L.b6_N [.xi (gI (gA vs 0))] K) (by kernel_rfl) (L.b6_eq (gI (gA vs 0)) K)) fun h => (L.b6.out h)
theorem L.b6_ok : SoundFn L.pg 41 L.b6_S :=
 fn_ok (sem := L.b6_N) (ss := L.b6_ss) (G := L.b6_G) (run_ok L.Γ_b6_ok L.Δ_b6_ok Try.func41 (ann := .leaf) (annOk_leaf _)) L.b6_imp
def L.Γ_a8 : Ctx := ctxC L.Γ_b6 41 L.b6_S
theorem L.Γ_a8_ok : SoundG L.pg L.Γ_a8 := ctxC_ok L.Γ_b6_ok L.b6_ok
def L.Δ_a8 : CtxO := L.Δ_b6
theorem L.Δ_a8_ok : SoundGO L.pg L.Δ_a8 := L.Δ_b6_ok
def L.a8_L1_b (s1 : (List Int)) (v7 v8 : Int) (self : Int -> Prop) (Kx0 : Prop) (Kr : Int -> Prop) : Prop :=
 (bif (decide (v8 < v7)) then (inB v8 s1.length) /\ L.b6 (s1.getD v8.toNat 0) (fun r => (bif r then Kr v8 else self (i64 (v8 + 1)))) else Kx0)
def L.a8_L1_R (s1 : (List Int)) (v7 : Int) : Nat -> Int -> (Prop) -> (Int -> Prop) -> Prop
 | 0, _, _, _ => False
 | fu + 1, v8, Kx0, Kr => L.a8_L1_b s1 v7 v8 (fun v8 => L.a8_L1_R s1 v7 fu v8 Kx0 Kr) Kx0 Kr
structure L.a8_L1 (s1 : (List Int)) (v7 v8 : Int) (Kx0 : Prop) (Kr : Int -> Prop) : Prop where
 out : ∃ fu, L.a8_L1_R s1 v7 fu v8 Kx0 Kr
def L.a8_L1_d : LoopD := { base := 0, vecs := [], flds := [], keep := [0, 1, 7, 8], out := [], rets := [4], rv := [], rbase := 0 }
def L.a8_L1_ss : List Sh := [.ro (.int .i64), .fn 41 [] [], .int .i64, .int .i64]
def L.a8_L1_os : List OSh := []
def L.a8_L1_G (vs : List V) (st : List Ob) (K : Ex -> St) : Prop := L.a8_L1 (gR (.int .i64) (gA vs 0)) (gI (gA vs 2)) (gI (gA vs 3)) (K (.exit 0) (bld [] [] 0 19) []) (fun q0_ => K .ret (bld [4] [.xi q0_] 0 19) [])
def L.a8_L1_F (vs : List V) (st : List Ob) (K : Ex -> St) : Prop := fitF L.a8_L1_ss L.a8_L1_os vs st (L.a8_L1_G vs st K)
theorem L.a8_L1_eq (s1 : (List Int)) (v7 : Int) (K : Ex -> St) : ∀ (fu : Nat) (v8 : Int), L.a8_L1_R s1 v7 fu v8 (K (.exit 0) (bld [] [] 0 19) []) (fun q0_ => K .ret (bld [4] [.xi q0_] 0 19) []) = iterL (stepL (L.ex L.Γ_a8 L.Δ_a8 .leaf (sub [true, false, true, false, false] (codeOf Try.f23))) 0 L.a8_L1_d K) fu (bld L.a8_L1_d.keep [.ro (.int .i64) s1, .fn (.func 41) [] [], .xi v7, .xi v8] 0 19) [] := by
 intro fu
 induction fu with
 | zero => intros; rfl
 | succ fu ih =>
  intro v8
  have e : (fun v8 => L.a8_L1_R s1 v7 fu v8 (K (.exit 0) (bld [] [] 0 19) []) (fun q0_ => K .ret (bld [4] [.xi q0_] 0 19) [])) = fun v8 => iterL (stepL (L.ex L.Γ_a8 L.Δ_a8 .leaf (sub [true, false, true, false, false] (codeOf Try.f23))) 0 L.a8_L1_d K) fu (bld L.a8_L1_d.keep [.ro (.int .i64) s1, .fn (.func 41) [] [], .xi v7, .xi v8] 0 19) [] := by
   funext v8; exact ih v8
  show L.a8_L1_b s1 v7 v8 (fun v8 => L.a8_L1_R s1 v7 fu v8 (K (.exit 0) (bld [] [] 0 19) []) (fun q0_ => K .ret (bld [4] [.xi q0_] 0 19) [])) (K (.exit 0) (bld [] [] 0 19) []) (fun q0_ => K .ret (bld [4] [.xi q0_] 0 19) []) = _
  rw [e]
  kernel_rfl
theorem L.a8_L1_imp (vs : List V) (st : List Ob) (K : Ex -> St) (h : L.a8_L1_G vs st K) : ∃ fu, iterL (stepL (L.ex L.Γ_a8 L.Δ_a8 .leaf (sub [true, false, true, false, false] (codeOf Try.f23))) 0 L.a8_L1_d K) fu (bld L.a8_L1_d.keep (mkL L.a8_L1_ss 0 vs) 0 19) (mkOs L.a8_L1_os 0 st) :=
 exMap (fun fu h => @Eq.mp _ _ (Eq.trans (L.a8_L1_eq (gR (.int .i64) (gA vs 0)) (gI (gA vs 2)) K fu (gI (gA vs 3))) (by kernel_rfl)) h) (L.a8_L1.out h)
theorem L.a8_L1_ok : AnnOk L.pg (CC L.pg L.Γ_a8 L.Δ_a8) (drawD L.pg L.Γ_a8 L.Δ_a8) 0 (.lift L.a8_L1_d 19 L.a8_L1_F) (.loop (sub [true, false, true, false, false] (codeOf Try.f23))) :=
 lift_ok (an := .leaf) (ss := L.a8_L1_ss) (os := L.a8_L1_os) (G := L.a8_L1_G) rfl (Nat.le_of_ble_eq_true rfl) (annOk_leaf _) (L.a8_L1_imp)
def L.a8_B (s : (List Int)) (K : Int -> Prop) : Prop :=
 L.a8_L1 s (s.length : Int) 0 (K (-1)) (fun r => K r)
structure L.a8 (s : (List Int)) (K : Int -> Prop) : Prop where
 out : L.a8_B s K
def L.a8_ss : List Sh := [.ro (.int .i64), .fn 41 [] []]
def L.a8_G (vs : List V) (K : V -> List Ob -> Prop) : Prop := L.a8 (gR (.int .i64) (gA vs 0)) (fun r0 => K (.xi r0) [])
def L.a8_S : SemF := fun args K => argF L.a8_ss args fun a => L.a8_G a K
noncomputable abbrev L.a8_N : SemF := run L.pg L.Γ_a8 L.Δ_a8 (.node .leaf (.node (.node .leaf (.lift L.a8_L1_d 19 L.a8_L1_F)) .leaf)) .any Try.f23
theorem L.a8_eq (s : (List Int)) (K : V -> List Ob -> Prop) : L.a8_N [.ro (.int .i64) s, .fn (.func 41) [] []] K = L.a8_B s (fun r0 => K (.xi r0) []) := by
 kernel_rfl
theorem L.a8_imp (vs : List V) (K : V -> List Ob -> Prop) : Imp (L.a8_G vs K) (L.a8_N (mkL L.a8_ss 0 vs) K) :=
 Imp.of (Eq.trans (b := L.a8_N [.ro (.int .i64) (gR (.int .i64) (gA vs 0)), .fn (.func 41) [] []] K) (by kernel_rfl) (L.a8_eq (gR (.int .i64) (gA vs 0)) K)) fun h => (L.a8.out h)
theorem L.a8_ok : SoundFn L.pg 23 L.a8_S :=
 fn_ok (sem := L.a8_N) (ss := L.a8_ss) (G := L.a8_G) (run_ok L.Γ_a8_ok L.Δ_a8_ok Try.func23 (ann := (.node .leaf (.node (.node .leaf (.lift L.a8_L1_d 19 L.a8_L1_F)) .leaf))) ⟨(annOk_leaf _), ⟨⟨(annOk_leaf _), L.a8_L1_ok⟩, (annOk_leaf _)⟩⟩) L.a8_imp
def L.Γ_b5 : Ctx := ctxA L.Γ_a8 23 L.a8_ss L.a8_G
theorem L.Γ_b5_ok : SoundG L.pg L.Γ_b5 := ctxA_ok L.Γ_a8_ok L.a8_ok
def L.Δ_b5 : CtxO := L.Δ_a8
theorem L.Δ_b5_ok : SoundGO L.pg L.Δ_b5 := L.Δ_a8_ok
def L.b5_B (s : (List Int)) (K : Bool -> Prop) : Prop :=
 L.a8 s (fun r => K (decide (r ≥ 0)))
structure L.b5 (s : (List Int)) (K : Bool -> Prop) : Prop where
 out : L.b5_B s K
def L.b5_ss : List Sh := [.ro (.int .i64), .fn 41 [] []]
def L.b5_G (vs : List V) (K : V -> List Ob -> Prop) : Prop := L.b5 (gR (.int .i64) (gA vs 0)) (fun r0 => K (.x (.bool r0)) [])
def L.b5_S : SemF := fun args K => argF L.b5_ss args fun a => L.b5_G a K
noncomputable abbrev L.b5_N : SemF := run L.pg L.Γ_b5 L.Δ_b5 .leaf .any Try.f40
theorem L.b5_eq (s : (List Int)) (K : V -> List Ob -> Prop) : L.b5_N [.ro (.int .i64) s, .fn (.func 41) [] []] K = L.b5_B s (fun r0 => K (.x (.bool r0)) []) := by
 kernel_rfl
theorem L.b5_imp (vs : List V) (K : V -> List Ob -> Prop) : Imp (L.b5_G vs K) (L.b5_N (mkL L.b5_ss 0 vs) K) :=
 Imp.of (Eq.trans (b := L.b5_N [.ro (.int .i64) (gR (.int .i64) (gA vs 0)), .fn (.func 41) [] []] K) (by kernel_rfl) (L.b5_eq (gR (.int .i64) (gA vs 0)) K)) fun h => (L.b5.out h)
theorem L.b5_ok : SoundFn L.pg 40 L.b5_S :=
 fn_ok (sem := L.b5_N) (ss := L.b5_ss) (G := L.b5_G) (run_ok L.Γ_b5_ok L.Δ_b5_ok Try.func40 (ann := .leaf) (annOk_leaf _)) L.b5_imp
def L.Γ_b2 : Ctx := ctxA L.Γ_b5 40 L.b5_ss L.b5_G
theorem L.Γ_b2_ok : SoundG L.pg L.Γ_b2 := ctxA_ok L.Γ_b5_ok L.b5_ok
def L.Δ_b2 : CtxO := L.Δ_b5
theorem L.Δ_b2_ok : SoundGO L.pg L.Δ_b2 := L.Δ_b5_ok
def L.b2_B (task : (List Int)) (K : Int -> Prop) : Prop :=
 (bif (decide ((task.length : Int) > 40)) then K 2 else L.b5 task (fun r => (bif r then K 3 else K 0)))
structure L.b2 (task : (List Int)) (K : Int -> Prop) : Prop where
 out : L.b2_B task K
def L.b2_ss : List Sh := [.ro (.int .i64)]
def L.b2_G (vs : List V) (K : V -> List Ob -> Prop) : Prop := L.b2 (gR (.int .i64) (gA vs 0)) (fun r0 => K (.xi r0) [])
def L.b2_S : SemF := fun args K => argF L.b2_ss args fun a => L.b2_G a K
noncomputable abbrev L.b2_N : SemF := run L.pg L.Γ_b2 L.Δ_b2 .leaf .any Try.f30
theorem L.b2_eq (task : (List Int)) (K : V -> List Ob -> Prop) : L.b2_N [.ro (.int .i64) task] K = L.b2_B task (fun r0 => K (.xi r0) []) := by
 kernel_rfl
theorem L.b2_imp (vs : List V) (K : V -> List Ob -> Prop) : Imp (L.b2_G vs K) (L.b2_N (mkL L.b2_ss 0 vs) K) :=
 Imp.of (Eq.trans (b := L.b2_N [.ro (.int .i64) (gR (.int .i64) (gA vs 0))] K) (by kernel_rfl) (L.b2_eq (gR (.int .i64) (gA vs 0)) K)) fun h => (L.b2.out h)
theorem L.b2_ok : SoundFn L.pg 30 L.b2_S :=
 fn_ok (sem := L.b2_N) (ss := L.b2_ss) (G := L.b2_G) (run_ok L.Γ_b2_ok L.Δ_b2_ok Try.func30 (ann := .leaf) (annOk_leaf _)) L.b2_imp
def L.Γ_a1 : Ctx := ctxC L.Γ_b2 30 L.b2_S
theorem L.Γ_a1_ok : SoundG L.pg L.Γ_a1 := ctxC_ok L.Γ_b2_ok L.b2_ok
def L.Δ_a1 : CtxO := L.Δ_b2
theorem L.Δ_a1_ok : SoundGO L.pg L.Δ_a1 := L.Δ_b2_ok
def L.a1_L1_b (v19 : (List (List Int))) (v20 v21 : Int) (self : Int -> Prop) (Kx0 : Prop) (Kr : Int -> Int -> Prop) : Prop :=
 (bif (decide (v21 < v20)) then (inB v21 v19.length) /\ L.b2 (v19.getD v21.toNat []) (fun r => (bif (r != 0) then Kr r v21 else self (i64 (v21 + 1)))) else Kx0)
def L.a1_L1_R (v19 : (List (List Int))) (v20 : Int) : Nat -> Int -> (Prop) -> (Int -> Int -> Prop) -> Prop
 | 0, _, _, _ => False
 | fu + 1, v21, Kx0, Kr => L.a1_L1_b v19 v20 v21 (fun v21 => L.a1_L1_R v19 v20 fu v21 Kx0 Kr) Kx0 Kr
structure L.a1_L1 (v19 : (List (List Int))) (v20 v21 : Int) (Kx0 : Prop) (Kr : Int -> Int -> Prop) : Prop where
 out : ∃ fu, L.a1_L1_R v19 v20 fu v21 Kx0 Kr
def L.a1_L1_d : LoopD := { base := 1, vecs := [], flds := [], keep := [4, 19, 20, 21], out := [4], rets := [4], rv := [], rbase := 0 }
def L.a1_L1_ss : List Sh := [.cl 0 0, .ro L.ya, .int .i64, .int .i64]
def L.a1_L1_os : List OSh := [.cells [.int .i64, .int .i64]]
def L.a1_L1_G (vs : List V) (st : List Ob) (K : Ex -> St) : Prop := L.a1_L1 (gR L.ya (gA vs 1)) (gI (gA vs 2)) (gI (gA vs 3)) (K (.exit 0) (bld [4] [.cl 0 0] 0 35) [.cells [.xi (cI st 0 0), .xi (cI st 0 1)]]) (fun q0_ q1_ => K .ret (bld [4] [.cl 0 0] 0 35) [.cells [.xi q0_, .xi q1_]])
def L.a1_L1_F (vs : List V) (st : List Ob) (K : Ex -> St) : Prop := fitF L.a1_L1_ss L.a1_L1_os vs st (L.a1_L1_G vs st K)
theorem L.a1_L1_eq (v19 : (List (List Int))) (v20 m0 m01 : Int) (K : Ex -> St) : ∀ (fu : Nat) (v21 : Int), L.a1_L1_R v19 v20 fu v21 (K (.exit 0) (bld [4] [.cl 0 0] 0 35) [.cells [.xi m0, .xi m01]]) (fun q0_ q1_ => K .ret (bld [4] [.cl 0 0] 0 35) [.cells [.xi q0_, .xi q1_]]) = iterL (stepL (L.ex L.Γ_a1 L.Δ_a1 .leaf (sub [true, true, true, false, true, false, false] (codeOf Try.f17))) 1 L.a1_L1_d K) fu (bld L.a1_L1_d.keep [.cl 0 0, .ro L.ya v19, .xi v20, .xi v21] 0 35) [.cells [.xi m0, .xi m01]] := by
 intro fu
 induction fu with
 | zero => intros; rfl
 | succ fu ih =>
  intro v21
  have e : (fun v21 => L.a1_L1_R v19 v20 fu v21 (K (.exit 0) (bld [4] [.cl 0 0] 0 35) [.cells [.xi m0, .xi m01]]) (fun q0_ q1_ => K .ret (bld [4] [.cl 0 0] 0 35) [.cells [.xi q0_, .xi q1_]])) = fun v21 => iterL (stepL (L.ex L.Γ_a1 L.Δ_a1 .leaf (sub [true, true, true, false, true, false, false] (codeOf Try.f17))) 1 L.a1_L1_d K) fu (bld L.a1_L1_d.keep [.cl 0 0, .ro L.ya v19, .xi v20, .xi v21] 0 35) [.cells [.xi m0, .xi m01]] := by
   funext v21; exact ih v21
  show L.a1_L1_b v19 v20 v21 (fun v21 => L.a1_L1_R v19 v20 fu v21 (K (.exit 0) (bld [4] [.cl 0 0] 0 35) [.cells [.xi m0, .xi m01]]) (fun q0_ q1_ => K .ret (bld [4] [.cl 0 0] 0 35) [.cells [.xi q0_, .xi q1_]])) (K (.exit 0) (bld [4] [.cl 0 0] 0 35) [.cells [.xi m0, .xi m01]]) (fun q0_ q1_ => K .ret (bld [4] [.cl 0 0] 0 35) [.cells [.xi q0_, .xi q1_]]) = _
  rw [e]
  kernel_rfl
theorem L.a1_L1_imp (vs : List V) (st : List Ob) (K : Ex -> St) (h : L.a1_L1_G vs st K) : ∃ fu, iterL (stepL (L.ex L.Γ_a1 L.Δ_a1 .leaf (sub [true, true, true, false, true, false, false] (codeOf Try.f17))) 1 L.a1_L1_d K) fu (bld L.a1_L1_d.keep (mkL L.a1_L1_ss 0 vs) 0 35) (mkOs L.a1_L1_os 0 st) :=
 exMap (fun fu h => @Eq.mp _ _ (Eq.trans (L.a1_L1_eq (gR L.ya (gA vs 1)) (gI (gA vs 2)) (cI st 0 0) (cI st 0 1) K fu (gI (gA vs 3))) (by kernel_rfl)) h) (L.a1_L1.out h)
theorem L.a1_L1_ok : AnnOk L.pg (CC L.pg L.Γ_a1 L.Δ_a1) (drawD L.pg L.Γ_a1 L.Δ_a1) 0 (.lift L.a1_L1_d 35 L.a1_L1_F) (.loop (sub [true, true, true, false, true, false, false] (codeOf Try.f17))) :=
 lift_ok (an := .leaf) (ss := L.a1_L1_ss) (os := L.a1_L1_os) (G := L.a1_L1_G) rfl (Nat.le_of_ble_eq_true rfl) (annOk_leaf _) (L.a1_L1_imp)
def L.a1_B (tasks : (List (List Int))) (workers : Int) (K : Int -> Int -> Prop) : Prop :=
 (bif (bif (decide (workers < 1)) then true else (decide (workers > 8))) then K 3 (-2) else (bif (decide ((tasks.length : Int) > 24)) then K 2 (-1) else L.a1_L1 tasks (tasks.length : Int) 0 (K 0 0) (fun m m1 => K m m1)))
structure L.a1 (tasks : (List (List Int))) (workers : Int) (K : Int -> Int -> Prop) : Prop where
 out : L.a1_B tasks workers K
def L.a1_ss : List Sh := [.ro L.ya, .int .i64]
def L.a1_G (vs : List V) (K : V -> List Ob -> Prop) : Prop := L.a1 (gR L.ya (gA vs 0)) (gI (gA vs 1)) (fun r0 r1 => K (.agg [.xi r0, .xi r1]) [])
def L.a1_S : SemF := fun args K => argF L.a1_ss args fun a => L.a1_G a K
noncomputable abbrev L.a1_N : SemF := run L.pg L.Γ_a1 L.Δ_a1 (.node .leaf (.node .leaf (.node .leaf (.node (.node .leaf (.lift L.a1_L1_d 35 L.a1_L1_F)) .leaf)))) .any Try.f17
theorem L.a1_eq (tasks : (List (List Int))) (workers : Int) (K : V -> List Ob -> Prop) : L.a1_N [.ro L.ya tasks, .xi workers] K = L.a1_B tasks workers (fun r0 r1 => K (.agg [.xi r0, .xi r1]) []) := by
 kernel_rfl
theorem L.a1_imp (vs : List V) (K : V -> List Ob -> Prop) : Imp (L.a1_G vs K) (L.a1_N (mkL L.a1_ss 0 vs) K) :=
 Imp.of (Eq.trans (b := L.a1_N [.ro L.ya (gR L.ya (gA vs 0)), .xi (gI (gA vs 1))] K) (by kernel_rfl) (L.a1_eq (gR L.ya (gA vs 0)) (gI (gA vs 1)) K)) fun h => (L.a1.out h)
theorem L.a1_ok : SoundFn L.pg 17 L.a1_S :=
 fn_ok (sem := L.a1_N) (ss := L.a1_ss) (G := L.a1_G) (run_ok L.Γ_a1_ok L.Δ_a1_ok Try.func17 (ann := (.node .leaf (.node .leaf (.node .leaf (.node (.node .leaf (.lift L.a1_L1_d 35 L.a1_L1_F)) .leaf))))) ⟨(annOk_leaf _), ⟨(annOk_leaf _), ⟨(annOk_leaf _), ⟨⟨(annOk_leaf _), L.a1_L1_ok⟩, (annOk_leaf _)⟩⟩⟩⟩) L.a1_imp
def L.Γ_a7 : Ctx := ctxC L.Γ_a1 17 L.a1_S
theorem L.Γ_a7_ok : SoundG L.pg L.Γ_a7 := ctxC_ok L.Γ_a1_ok L.a1_ok
def L.Δ_a7 : CtxO := L.Δ_a1
theorem L.Δ_a7_ok : SoundGO L.pg L.Δ_a7 := L.Δ_a1_ok
def L.a7_L1_b (x1 : (List Int)) (m i_ : Int) (self : Int -> Int -> Prop) (Kx0 : Int -> Prop) : Prop :=
 (bif (decide (i_ < (x1.length : Int))) then (inB i_ x1.length) /\ self (amn m (x1.getD i_.toNat 0)) (i64 (i_ + 1)) else Kx0 m)
def L.a7_L1_R (x1 : (List Int)) : Nat -> Int -> Int -> (Int -> Prop) -> Prop
 | 0, _, _, _ => False
 | fu + 1, m, i_, Kx0 => L.a7_L1_b x1 m i_ (fun m i_ => L.a7_L1_R x1 fu m i_ Kx0) Kx0
structure L.a7_L1 (x1 : (List Int)) (m i_ : Int) (Kx0 : Int -> Prop) : Prop where
 out : ∃ fu, L.a7_L1_R x1 fu m i_ Kx0
def L.a7_L1_d : LoopD := { base := 0, vecs := [], flds := [], keep := [0, 3, 4], out := [3], rets := [2], rv := [], rbase := 0 }
def L.a7_L1_ss : List Sh := [.ro (.int .i64), .int .i64, .int .i64]
def L.a7_L1_os : List OSh := []
def L.a7_L1_G (vs : List V) (st : List Ob) (K : Ex -> St) : Prop := L.a7_L1 (gR (.int .i64) (gA vs 0)) (gI (gA vs 1)) (gI (gA vs 2)) (fun q0_ => K (.exit 0) (bld [3] [.xi q0_] 0 25) [])
def L.a7_L1_F (vs : List V) (st : List Ob) (K : Ex -> St) : Prop := fitF L.a7_L1_ss L.a7_L1_os vs st (L.a7_L1_G vs st K)
theorem L.a7_L1_eq (x1 : (List Int)) (K : Ex -> St) : ∀ (fu : Nat) (m : Int) (i_ : Int), L.a7_L1_R x1 fu m i_ (fun q0_ => K (.exit 0) (bld [3] [.xi q0_] 0 25) []) = iterL (stepL (L.ex L.Γ_a7 L.Δ_a7 .leaf (sub [true, true, true, false, true, false, false] (codeOf Try.f27))) 0 L.a7_L1_d K) fu (bld L.a7_L1_d.keep [.ro (.int .i64) x1, .xi m, .xi i_] 0 25) [] := by
 intro fu
 induction fu with
 | zero => intros; rfl
 | succ fu ih =>
  intro m i_
  have e : (fun m i_ => L.a7_L1_R x1 fu m i_ (fun q0_ => K (.exit 0) (bld [3] [.xi q0_] 0 25) [])) = fun m i_ => iterL (stepL (L.ex L.Γ_a7 L.Δ_a7 .leaf (sub [true, true, true, false, true, false, false] (codeOf Try.f27))) 0 L.a7_L1_d K) fu (bld L.a7_L1_d.keep [.ro (.int .i64) x1, .xi m, .xi i_] 0 25) [] := by
   funext m i_; exact ih m i_
  show L.a7_L1_b x1 m i_ (fun m i_ => L.a7_L1_R x1 fu m i_ (fun q0_ => K (.exit 0) (bld [3] [.xi q0_] 0 25) [])) (fun q0_ => K (.exit 0) (bld [3] [.xi q0_] 0 25) []) = _
  rw [e]
  kernel_rfl
theorem L.a7_L1_imp (vs : List V) (st : List Ob) (K : Ex -> St) (h : L.a7_L1_G vs st K) : ∃ fu, iterL (stepL (L.ex L.Γ_a7 L.Δ_a7 .leaf (sub [true, true, true, false, true, false, false] (codeOf Try.f27))) 0 L.a7_L1_d K) fu (bld L.a7_L1_d.keep (mkL L.a7_L1_ss 0 vs) 0 25) (mkOs L.a7_L1_os 0 st) :=
 exMap (fun fu h => @Eq.mp _ _ (Eq.trans (L.a7_L1_eq (gR (.int .i64) (gA vs 0)) K fu (gI (gA vs 1)) (gI (gA vs 2))) (by kernel_rfl)) h) (L.a7_L1.out h)
theorem L.a7_L1_ok : AnnOk L.pg (CC L.pg L.Γ_a7 L.Δ_a7) (drawD L.pg L.Γ_a7 L.Δ_a7) 0 (.lift L.a7_L1_d 25 L.a7_L1_F) (.loop (sub [true, true, true, false, true, false, false] (codeOf Try.f27))) :=
 lift_ok (an := .leaf) (ss := L.a7_L1_ss) (os := L.a7_L1_os) (G := L.a7_L1_G) rfl (Nat.le_of_ble_eq_true rfl) (annOk_leaf _) (L.a7_L1_imp)
def L.a7_B (x : (List Int)) (K : Int -> Prop) : Prop :=
 (bif (decide ((x.length : Int) < 1)) then False else (inB 0 x.length) /\ L.a7_L1 x (x.getD ((0 : Int).toNat) 0) 1 (fun m => K m))
structure L.a7 (x : (List Int)) (K : Int -> Prop) : Prop where
 out : L.a7_B x K
def L.a7_ss : List Sh := [.ro (.int .i64)]
def L.a7_G (vs : List V) (K : V -> List Ob -> Prop) : Prop := L.a7 (gR (.int .i64) (gA vs 0)) (fun r0 => K (.xi r0) [])
def L.a7_S : SemF := fun args K => argF L.a7_ss args fun a => L.a7_G a K
noncomputable abbrev L.a7_N : SemF := run L.pg L.Γ_a7 L.Δ_a7 (.node .leaf (.node .leaf (.node .leaf (.node (.node .leaf (.lift L.a7_L1_d 25 L.a7_L1_F)) .leaf)))) .any Try.f27
theorem L.a7_eq (x : (List Int)) (K : V -> List Ob -> Prop) : L.a7_N [.ro (.int .i64) x] K = L.a7_B x (fun r0 => K (.xi r0) []) := by
 kernel_rfl
theorem L.a7_imp (vs : List V) (K : V -> List Ob -> Prop) : Imp (L.a7_G vs K) (L.a7_N (mkL L.a7_ss 0 vs) K) :=
 Imp.of (Eq.trans (b := L.a7_N [.ro (.int .i64) (gR (.int .i64) (gA vs 0))] K) (by kernel_rfl) (L.a7_eq (gR (.int .i64) (gA vs 0)) K)) fun h => (L.a7.out h)
theorem L.a7_ok : SoundFn L.pg 27 L.a7_S :=
 fn_ok (sem := L.a7_N) (ss := L.a7_ss) (G := L.a7_G) (run_ok L.Γ_a7_ok L.Δ_a7_ok Try.func27 (ann := (.node .leaf (.node .leaf (.node .leaf (.node (.node .leaf (.lift L.a7_L1_d 25 L.a7_L1_F)) .leaf))))) ⟨(annOk_leaf _), ⟨(annOk_leaf _), ⟨(annOk_leaf _), ⟨⟨(annOk_leaf _), L.a7_L1_ok⟩, (annOk_leaf _)⟩⟩⟩⟩) L.a7_imp
def L.Γ_a9 : Ctx := ctxC L.Γ_a7 27 L.a7_S
theorem L.Γ_a9_ok : SoundG L.pg L.Γ_a9 := ctxC_ok L.Γ_a7_ok L.a7_ok
def L.Δ_a9 : CtxO := L.Δ_a7
theorem L.Δ_a9_ok : SoundGO L.pg L.Δ_a9 := L.Δ_a7_ok
def L.a9_L1_b (s1 : (List Int)) (v1 v7 v8 : Int) (self : Int -> Prop) (Kx0 : Prop) (Kr : Int -> Prop) : Prop :=
 (bif (decide (v8 < v7)) then (inB v8 s1.length) /\ (bif (v1 == (s1.getD v8.toNat 0)) then Kr v8 else self (i64 (v8 + 1))) else Kx0)
def L.a9_L1_R (s1 : (List Int)) (v1 v7 : Int) : Nat -> Int -> (Prop) -> (Int -> Prop) -> Prop
 | 0, _, _, _ => False
 | fu + 1, v8, Kx0, Kr => L.a9_L1_b s1 v1 v7 v8 (fun v8 => L.a9_L1_R s1 v1 v7 fu v8 Kx0 Kr) Kx0 Kr
structure L.a9_L1 (s1 : (List Int)) (v1 v7 v8 : Int) (Kx0 : Prop) (Kr : Int -> Prop) : Prop where
 out : ∃ fu, L.a9_L1_R s1 v1 v7 fu v8 Kx0 Kr
def L.a9_L1_d : LoopD := { base := 0, vecs := [], flds := [], keep := [0, 1, 7, 8], out := [], rets := [4], rv := [], rbase := 0 }
def L.a9_L1_ss : List Sh := [.ro (.int .i64), .int .i64, .int .i64, .int .i64]
def L.a9_L1_os : List OSh := []
def L.a9_L1_G (vs : List V) (st : List Ob) (K : Ex -> St) : Prop := L.a9_L1 (gR (.int .i64) (gA vs 0)) (gI (gA vs 1)) (gI (gA vs 2)) (gI (gA vs 3)) (K (.exit 0) (bld [] [] 0 19) []) (fun q0_ => K .ret (bld [4] [.xi q0_] 0 19) [])
def L.a9_L1_F (vs : List V) (st : List Ob) (K : Ex -> St) : Prop := fitF L.a9_L1_ss L.a9_L1_os vs st (L.a9_L1_G vs st K)
theorem L.a9_L1_eq (s1 : (List Int)) (v1 v7 : Int) (K : Ex -> St) : ∀ (fu : Nat) (v8 : Int), L.a9_L1_R s1 v1 v7 fu v8 (K (.exit 0) (bld [] [] 0 19) []) (fun q0_ => K .ret (bld [4] [.xi q0_] 0 19) []) = iterL (stepL (L.ex L.Γ_a9 L.Δ_a9 .leaf (sub [true, false, true, false, false] (codeOf Try.f26))) 0 L.a9_L1_d K) fu (bld L.a9_L1_d.keep [.ro (.int .i64) s1, .xi v1, .xi v7, .xi v8] 0 19) [] := by
 intro fu
 induction fu with
 | zero => intros; rfl
 | succ fu ih =>
  intro v8
  have e : (fun v8 => L.a9_L1_R s1 v1 v7 fu v8 (K (.exit 0) (bld [] [] 0 19) []) (fun q0_ => K .ret (bld [4] [.xi q0_] 0 19) [])) = fun v8 => iterL (stepL (L.ex L.Γ_a9 L.Δ_a9 .leaf (sub [true, false, true, false, false] (codeOf Try.f26))) 0 L.a9_L1_d K) fu (bld L.a9_L1_d.keep [.ro (.int .i64) s1, .xi v1, .xi v7, .xi v8] 0 19) [] := by
   funext v8; exact ih v8
  show L.a9_L1_b s1 v1 v7 v8 (fun v8 => L.a9_L1_R s1 v1 v7 fu v8 (K (.exit 0) (bld [] [] 0 19) []) (fun q0_ => K .ret (bld [4] [.xi q0_] 0 19) [])) (K (.exit 0) (bld [] [] 0 19) []) (fun q0_ => K .ret (bld [4] [.xi q0_] 0 19) []) = _
  rw [e]
  kernel_rfl
theorem L.a9_L1_imp (vs : List V) (st : List Ob) (K : Ex -> St) (h : L.a9_L1_G vs st K) : ∃ fu, iterL (stepL (L.ex L.Γ_a9 L.Δ_a9 .leaf (sub [true, false, true, false, false] (codeOf Try.f26))) 0 L.a9_L1_d K) fu (bld L.a9_L1_d.keep (mkL L.a9_L1_ss 0 vs) 0 19) (mkOs L.a9_L1_os 0 st) :=
 exMap (fun fu h => @Eq.mp _ _ (Eq.trans (L.a9_L1_eq (gR (.int .i64) (gA vs 0)) (gI (gA vs 1)) (gI (gA vs 2)) K fu (gI (gA vs 3))) (by kernel_rfl)) h) (L.a9_L1.out h)
theorem L.a9_L1_ok : AnnOk L.pg (CC L.pg L.Γ_a9 L.Δ_a9) (drawD L.pg L.Γ_a9 L.Δ_a9) 0 (.lift L.a9_L1_d 19 L.a9_L1_F) (.loop (sub [true, false, true, false, false] (codeOf Try.f26))) :=
 lift_ok (an := .leaf) (ss := L.a9_L1_ss) (os := L.a9_L1_os) (G := L.a9_L1_G) rfl (Nat.le_of_ble_eq_true rfl) (annOk_leaf _) (L.a9_L1_imp)
def L.a9_B (s : (List Int)) (v : Int) (K : Int -> Prop) : Prop :=
 L.a9_L1 s v (s.length : Int) 0 (K (-1)) (fun r => K r)
structure L.a9 (s : (List Int)) (v : Int) (K : Int -> Prop) : Prop where
 out : L.a9_B s v K
def L.a9_ss : List Sh := [.ro (.int .i64), .int .i64]
def L.a9_G (vs : List V) (K : V -> List Ob -> Prop) : Prop := L.a9 (gR (.int .i64) (gA vs 0)) (gI (gA vs 1)) (fun r0 => K (.xi r0) [])
def L.a9_S : SemF := fun args K => argF L.a9_ss args fun a => L.a9_G a K
noncomputable abbrev L.a9_N : SemF := run L.pg L.Γ_a9 L.Δ_a9 (.node .leaf (.node (.node .leaf (.lift L.a9_L1_d 19 L.a9_L1_F)) .leaf)) .any Try.f26
theorem L.a9_eq (s : (List Int)) (v : Int) (K : V -> List Ob -> Prop) : L.a9_N [.ro (.int .i64) s, .xi v] K = L.a9_B s v (fun r0 => K (.xi r0) []) := by
 kernel_rfl
theorem L.a9_imp (vs : List V) (K : V -> List Ob -> Prop) : Imp (L.a9_G vs K) (L.a9_N (mkL L.a9_ss 0 vs) K) :=
 Imp.of (Eq.trans (b := L.a9_N [.ro (.int .i64) (gR (.int .i64) (gA vs 0)), .xi (gI (gA vs 1))] K) (by kernel_rfl) (L.a9_eq (gR (.int .i64) (gA vs 0)) (gI (gA vs 1)) K)) fun h => (L.a9.out h)
theorem L.a9_ok : SoundFn L.pg 26 L.a9_S :=
 fn_ok (sem := L.a9_N) (ss := L.a9_ss) (G := L.a9_G) (run_ok L.Γ_a9_ok L.Δ_a9_ok Try.func26 (ann := (.node .leaf (.node (.node .leaf (.lift L.a9_L1_d 19 L.a9_L1_F)) .leaf))) ⟨(annOk_leaf _), ⟨⟨(annOk_leaf _), L.a9_L1_ok⟩, (annOk_leaf _)⟩⟩) L.a9_imp
def L.Γ_a4 : Ctx := ctxC L.Γ_a9 26 L.a9_S
theorem L.Γ_a4_ok : SoundG L.pg L.Γ_a4 := ctxC_ok L.Γ_a9_ok L.a9_ok
def L.Δ_a4 : CtxO := L.Δ_a9
theorem L.Δ_a4_ok : SoundGO L.pg L.Δ_a4 := L.Δ_a9_ok
def L.a4_L1_b (x1 : (List Int)) (m i_ : Int) (self : Int -> Int -> Prop) (Kx0 : Int -> Prop) : Prop :=
 (bif (decide (i_ < (x1.length : Int))) then (inB i_ x1.length) /\ self (amx m (x1.getD i_.toNat 0)) (i64 (i_ + 1)) else Kx0 m)
def L.a4_L1_R (x1 : (List Int)) : Nat -> Int -> Int -> (Int -> Prop) -> Prop
 | 0, _, _, _ => False
 | fu + 1, m, i_, Kx0 => L.a4_L1_b x1 m i_ (fun m i_ => L.a4_L1_R x1 fu m i_ Kx0) Kx0
structure L.a4_L1 (x1 : (List Int)) (m i_ : Int) (Kx0 : Int -> Prop) : Prop where
 out : ∃ fu, L.a4_L1_R x1 fu m i_ Kx0
def L.a4_L1_d : LoopD := { base := 0, vecs := [], flds := [], keep := [0, 3, 4], out := [3], rets := [2], rv := [], rbase := 0 }
def L.a4_L1_ss : List Sh := [.ro (.int .i64), .int .i64, .int .i64]
def L.a4_L1_os : List OSh := []
def L.a4_L1_G (vs : List V) (st : List Ob) (K : Ex -> St) : Prop := L.a4_L1 (gR (.int .i64) (gA vs 0)) (gI (gA vs 1)) (gI (gA vs 2)) (fun q0_ => K (.exit 0) (bld [3] [.xi q0_] 0 25) [])
def L.a4_L1_F (vs : List V) (st : List Ob) (K : Ex -> St) : Prop := fitF L.a4_L1_ss L.a4_L1_os vs st (L.a4_L1_G vs st K)
theorem L.a4_L1_eq (x1 : (List Int)) (K : Ex -> St) : ∀ (fu : Nat) (m : Int) (i_ : Int), L.a4_L1_R x1 fu m i_ (fun q0_ => K (.exit 0) (bld [3] [.xi q0_] 0 25) []) = iterL (stepL (L.ex L.Γ_a4 L.Δ_a4 .leaf (sub [true, true, true, false, true, false, false] (codeOf Try.f28))) 0 L.a4_L1_d K) fu (bld L.a4_L1_d.keep [.ro (.int .i64) x1, .xi m, .xi i_] 0 25) [] := by
 intro fu
 induction fu with
 | zero => intros; rfl
 | succ fu ih =>
  intro m i_
  have e : (fun m i_ => L.a4_L1_R x1 fu m i_ (fun q0_ => K (.exit 0) (bld [3] [.xi q0_] 0 25) [])) = fun m i_ => iterL (stepL (L.ex L.Γ_a4 L.Δ_a4 .leaf (sub [true, true, true, false, true, false, false] (codeOf Try.f28))) 0 L.a4_L1_d K) fu (bld L.a4_L1_d.keep [.ro (.int .i64) x1, .xi m, .xi i_] 0 25) [] := by
   funext m i_; exact ih m i_
  show L.a4_L1_b x1 m i_ (fun m i_ => L.a4_L1_R x1 fu m i_ (fun q0_ => K (.exit 0) (bld [3] [.xi q0_] 0 25) [])) (fun q0_ => K (.exit 0) (bld [3] [.xi q0_] 0 25) []) = _
  rw [e]
  kernel_rfl
theorem L.a4_L1_imp (vs : List V) (st : List Ob) (K : Ex -> St) (h : L.a4_L1_G vs st K) : ∃ fu, iterL (stepL (L.ex L.Γ_a4 L.Δ_a4 .leaf (sub [true, true, true, false, true, false, false] (codeOf Try.f28))) 0 L.a4_L1_d K) fu (bld L.a4_L1_d.keep (mkL L.a4_L1_ss 0 vs) 0 25) (mkOs L.a4_L1_os 0 st) :=
 exMap (fun fu h => @Eq.mp _ _ (Eq.trans (L.a4_L1_eq (gR (.int .i64) (gA vs 0)) K fu (gI (gA vs 1)) (gI (gA vs 2))) (by kernel_rfl)) h) (L.a4_L1.out h)
theorem L.a4_L1_ok : AnnOk L.pg (CC L.pg L.Γ_a4 L.Δ_a4) (drawD L.pg L.Γ_a4 L.Δ_a4) 0 (.lift L.a4_L1_d 25 L.a4_L1_F) (.loop (sub [true, true, true, false, true, false, false] (codeOf Try.f28))) :=
 lift_ok (an := .leaf) (ss := L.a4_L1_ss) (os := L.a4_L1_os) (G := L.a4_L1_G) rfl (Nat.le_of_ble_eq_true rfl) (annOk_leaf _) (L.a4_L1_imp)
def L.a4_B (x : (List Int)) (K : Int -> Prop) : Prop :=
 (bif (decide ((x.length : Int) < 1)) then False else (inB 0 x.length) /\ L.a4_L1 x (x.getD ((0 : Int).toNat) 0) 1 (fun m => K m))
structure L.a4 (x : (List Int)) (K : Int -> Prop) : Prop where
 out : L.a4_B x K
def L.a4_ss : List Sh := [.ro (.int .i64)]
def L.a4_G (vs : List V) (K : V -> List Ob -> Prop) : Prop := L.a4 (gR (.int .i64) (gA vs 0)) (fun r0 => K (.xi r0) [])
def L.a4_S : SemF := fun args K => argF L.a4_ss args fun a => L.a4_G a K
noncomputable abbrev L.a4_N : SemF := run L.pg L.Γ_a4 L.Δ_a4 (.node .leaf (.node .leaf (.node .leaf (.node (.node .leaf (.lift L.a4_L1_d 25 L.a4_L1_F)) .leaf)))) .any Try.f28
theorem L.a4_eq (x : (List Int)) (K : V -> List Ob -> Prop) : L.a4_N [.ro (.int .i64) x] K = L.a4_B x (fun r0 => K (.xi r0) []) := by
 kernel_rfl
theorem L.a4_imp (vs : List V) (K : V -> List Ob -> Prop) : Imp (L.a4_G vs K) (L.a4_N (mkL L.a4_ss 0 vs) K) :=
 Imp.of (Eq.trans (b := L.a4_N [.ro (.int .i64) (gR (.int .i64) (gA vs 0))] K) (by kernel_rfl) (L.a4_eq (gR (.int .i64) (gA vs 0)) K)) fun h => (L.a4.out h)
theorem L.a4_ok : SoundFn L.pg 28 L.a4_S :=
 fn_ok (sem := L.a4_N) (ss := L.a4_ss) (G := L.a4_G) (run_ok L.Γ_a4_ok L.Δ_a4_ok Try.func28 (ann := (.node .leaf (.node .leaf (.node .leaf (.node (.node .leaf (.lift L.a4_L1_d 25 L.a4_L1_F)) .leaf))))) ⟨(annOk_leaf _), ⟨(annOk_leaf _), ⟨(annOk_leaf _), ⟨⟨(annOk_leaf _), L.a4_L1_ok⟩, (annOk_leaf _)⟩⟩⟩⟩) L.a4_imp
def L.Γ_a2 : Ctx := ctxC L.Γ_a4 28 L.a4_S
theorem L.Γ_a2_ok : SoundG L.pg L.Γ_a2 := ctxC_ok L.Γ_a4_ok L.a4_ok
def L.Δ_a2 : CtxO := L.Δ_a4
theorem L.Δ_a2_ok : SoundGO L.pg L.Δ_a2 := L.Δ_a4_ok
def L.a2_L1_b (v22 : (List (List Int))) (v23 v24 : Int) (times out : (List Int)) (self : Int -> (List Int) -> (List Int) -> Prop) (Kx0 : (List Int) -> (List Int) -> Prop) : Prop :=
 (bif (decide (v24 < v23)) then (inB v24 v22.length) /\ L.a7 times (fun r => L.a9 times r (fun r1 => (inB r1 times.length) /\ (inB r1 times.length) /\ (fits (out.length + ([r1] : List Int).length)) /\ self (i64 (v24 + 1)) (times.set r1.toNat (i64 ((times.getD r1.toNat 0) + (i64 (((v22.getD v24.toNat []).length : Int) + 1))))) (out ++ ([r1] : List Int)))) else Kx0 times out)
def L.a2_L1_R (v22 : (List (List Int))) (v23 : Int) : Nat -> Int -> (List Int) -> (List Int) -> ((List Int) -> (List Int) -> Prop) -> Prop
 | 0, _, _, _, _ => False
 | fu + 1, v24, times, out, Kx0 => L.a2_L1_b v22 v23 v24 times out (fun v24 times out => L.a2_L1_R v22 v23 fu v24 times out Kx0) Kx0
structure L.a2_L1 (v22 : (List (List Int))) (v23 v24 : Int) (times out : (List Int)) (Kx0 : (List Int) -> (List Int) -> Prop) : Prop where
 out : ∃ fu, L.a2_L1_R v22 v23 fu v24 times out Kx0
def L.a2_L1_d : LoopD := { base := 3, vecs := [(9, .sl (.int .i64))], flds := [], keep := [6, 8, 9, 22, 23, 24], out := [6, 8, 9], rets := [4, 5, 6], rv := [], rbase := 0 }
def L.a2_L1_ss : List Sh := [.cl 0 0, .vec 2, .vec 3, .ro L.ya, .int .i64, .int .i64]
def L.a2_L1_os : List OSh := [.cells [.int .i64, .int .i64], .cells [.int .i64, .int .i64], .vec (.int .i64) true, .vec (.int .i64) true]
def L.a2_L1_G (vs : List V) (st : List Ob) (K : Ex -> St) : Prop := L.a2_L1 (gR L.ya (gA vs 3)) (gI (gA vs 4)) (gI (gA vs 5)) (oX (.int .i64) (gD st 2)) (oX (.int .i64) (gD st 3)) (fun q0_ q1_ => K (.exit 0) (bld [6, 8, 9] [.cl 0 0, .vec 2, .vec 3] 0 50) [.cells [.xi (cI st 0 0), .xi (cI st 0 1)], .cells [.xi (cI st 1 0), .xi (cI st 1 1)], .vec (.int .i64) 0 q0_, .vec (.int .i64) 0 q1_])
def L.a2_L1_F (vs : List V) (st : List Ob) (K : Ex -> St) : Prop := fitF L.a2_L1_ss L.a2_L1_os vs st (L.a2_L1_G vs st K)
theorem L.a2_L1_eq (v22 : (List (List Int))) (v23 m0 m01 m1 m11 : Int) (K : Ex -> St) : ∀ (fu : Nat) (v24 : Int) (times : (List Int)) (out : (List Int)), L.a2_L1_R v22 v23 fu v24 times out (fun q0_ q1_ => K (.exit 0) (bld [6, 8, 9] [.cl 0 0, .vec 2, .vec 3] 0 50) [.cells [.xi m0, .xi m01], .cells [.xi m1, .xi m11], .vec (.int .i64) 0 q0_, .vec (.int .i64) 0 q1_]) = iterL (stepL (L.ex L.Γ_a2 L.Δ_a2 .leaf (sub [true, true, true, true, false, true, false, false] (codeOf Try.f12))) 3 L.a2_L1_d K) fu (bld L.a2_L1_d.keep [.cl 0 0, .vec 2, .vec 3, .ro L.ya v22, .xi v23, .xi v24] 0 50) [.cells [.xi m0, .xi m01], .cells [.xi m1, .xi m11], .vec (.int .i64) 0 times, .vec (.int .i64) 0 out] := by
 intro fu
 induction fu with
 | zero => intros; rfl
 | succ fu ih =>
  intro v24 times out
  have e : (fun v24 times out => L.a2_L1_R v22 v23 fu v24 times out (fun q0_ q1_ => K (.exit 0) (bld [6, 8, 9] [.cl 0 0, .vec 2, .vec 3] 0 50) [.cells [.xi m0, .xi m01], .cells [.xi m1, .xi m11], .vec (.int .i64) 0 q0_, .vec (.int .i64) 0 q1_])) = fun v24 times out => iterL (stepL (L.ex L.Γ_a2 L.Δ_a2 .leaf (sub [true, true, true, true, false, true, false, false] (codeOf Try.f12))) 3 L.a2_L1_d K) fu (bld L.a2_L1_d.keep [.cl 0 0, .vec 2, .vec 3, .ro L.ya v22, .xi v23, .xi v24] 0 50) [.cells [.xi m0, .xi m01], .cells [.xi m1, .xi m11], .vec (.int .i64) 0 times, .vec (.int .i64) 0 out] := by
   funext v24 times out; exact ih v24 times out
  show L.a2_L1_b v22 v23 v24 times out (fun v24 times out => L.a2_L1_R v22 v23 fu v24 times out (fun q0_ q1_ => K (.exit 0) (bld [6, 8, 9] [.cl 0 0, .vec 2, .vec 3] 0 50) [.cells [.xi m0, .xi m01], .cells [.xi m1, .xi m11], .vec (.int .i64) 0 q0_, .vec (.int .i64) 0 q1_])) (fun q0_ q1_ => K (.exit 0) (bld [6, 8, 9] [.cl 0 0, .vec 2, .vec 3] 0 50) [.cells [.xi m0, .xi m01], .cells [.xi m1, .xi m11], .vec (.int .i64) 0 q0_, .vec (.int .i64) 0 q1_]) = _
  rw [e]
  kernel_rfl
theorem L.a2_L1_imp (vs : List V) (st : List Ob) (K : Ex -> St) (h : L.a2_L1_G vs st K) : ∃ fu, iterL (stepL (L.ex L.Γ_a2 L.Δ_a2 .leaf (sub [true, true, true, true, false, true, false, false] (codeOf Try.f12))) 3 L.a2_L1_d K) fu (bld L.a2_L1_d.keep (mkL L.a2_L1_ss 0 vs) 0 50) (mkOs L.a2_L1_os 0 st) :=
 exMap (fun fu h => @Eq.mp _ _ (Eq.trans (L.a2_L1_eq (gR L.ya (gA vs 3)) (gI (gA vs 4)) (cI st 0 0) (cI st 0 1) (cI st 1 0) (cI st 1 1) K fu (gI (gA vs 5)) (oX (.int .i64) (gD st 2)) (oX (.int .i64) (gD st 3))) (by kernel_rfl)) h) (L.a2_L1.out h)
theorem L.a2_L1_ok : AnnOk L.pg (CC L.pg L.Γ_a2 L.Δ_a2) (drawD L.pg L.Γ_a2 L.Δ_a2) 0 (.lift L.a2_L1_d 50 L.a2_L1_F) (.loop (sub [true, true, true, true, false, true, false, false] (codeOf Try.f12))) :=
 lift_ok (an := .leaf) (ss := L.a2_L1_ss) (os := L.a2_L1_os) (G := L.a2_L1_G) rfl (Nat.le_of_ble_eq_true rfl) (annOk_leaf _) (L.a2_L1_imp)
def L.a2_B (tasks : (List (List Int))) (workers : Int) (K : (List Int) -> Int -> Int -> Int -> Prop) : Prop :=
 L.a1 tasks workers (fun rCode rIndex => (bif (!((rCode == 0) && ((rIndex == 0) && true))) then K ([] : List Int) 0 rCode rIndex else (0 <= workers /\ workers <= workers /\ workers <= 1073741824) /\ L.a2_L1 tasks (tasks.length : Int) 0 (List.replicate workers.toNat (0 : Int)) ([] : List Int) (fun times out => L.a4 times (fun r => K out r 0 0))))
structure L.a2 (tasks : (List (List Int))) (workers : Int) (K : (List Int) -> Int -> Int -> Int -> Prop) : Prop where
 out : L.a2_B tasks workers K
def L.a2_ss : List Sh := [.ro L.ya, .int .i64]
def L.a2_G (vs : List V) (K : V -> List Ob -> Prop) : Prop := L.a2 (gR L.ya (gA vs 0)) (gI (gA vs 1)) (fun r0 r1 r2 r3 => K (.tup [.vec 0, .xi r1, .agg [.xi r2, .xi r3]]) [.vec (.int .i64) 0 r0])
def L.a2_S : SemF := fun args K => argF L.a2_ss args fun a => L.a2_G a K
noncomputable abbrev L.a2_N : SemF := run L.pg L.Γ_a2 L.Δ_a2 (.node .leaf (.node .leaf (.node .leaf (.node .leaf (.node (.node .leaf (.lift L.a2_L1_d 50 L.a2_L1_F)) .leaf))))) (.tup [.sl (.int .i64), .any, .any]) Try.f12
theorem L.a2_eq (tasks : (List (List Int))) (workers : Int) (K : V -> List Ob -> Prop) : L.a2_N [.ro L.ya tasks, .xi workers] K = L.a2_B tasks workers (fun r0 r1 r2 r3 => K (.tup [.vec 0, .xi r1, .agg [.xi r2, .xi r3]]) [.vec (.int .i64) 0 r0]) := by
 kernel_rfl
theorem L.a2_imp (vs : List V) (K : V -> List Ob -> Prop) : Imp (L.a2_G vs K) (L.a2_N (mkL L.a2_ss 0 vs) K) :=
 Imp.of (Eq.trans (b := L.a2_N [.ro L.ya (gR L.ya (gA vs 0)), .xi (gI (gA vs 1))] K) (by kernel_rfl) (L.a2_eq (gR L.ya (gA vs 0)) (gI (gA vs 1)) K)) fun h => (L.a2.out h)
theorem L.a2_ok : SoundFn L.pg 12 L.a2_S :=
 fn_ok (sem := L.a2_N) (ss := L.a2_ss) (G := L.a2_G) (run_ok L.Γ_a2_ok L.Δ_a2_ok Try.func12 (ann := (.node .leaf (.node .leaf (.node .leaf (.node .leaf (.node (.node .leaf (.lift L.a2_L1_d 50 L.a2_L1_F)) .leaf)))))) ⟨(annOk_leaf _), ⟨(annOk_leaf _), ⟨(annOk_leaf _), ⟨(annOk_leaf _), ⟨⟨(annOk_leaf _), L.a2_L1_ok⟩, (annOk_leaf _)⟩⟩⟩⟩⟩) L.a2_imp
def L.Γ_c0 : Ctx := ctxC L.Γ_a2 12 L.a2_S
theorem L.Γ_c0_ok : SoundG L.pg L.Γ_c0 := ctxC_ok L.Γ_a2_ok L.a2_ok
def L.Δ_c0 : CtxO := L.Δ_a2
theorem L.Δ_c0_ok : SoundGO L.pg L.Δ_c0 := L.Δ_a2_ok
def L.c0_B (tasks : (List (List Int))) (workers : Int) (K : (List Int) -> Prop) : Prop :=
 Pl.C tasks workers /\ K (Pl.R tasks workers)
structure L.c0 (tasks : (List (List Int))) (workers : Int) (K : (List Int) -> Prop) : Prop where
 out : L.c0_B tasks workers K
def L.c0_ss : List Sh := [.ro L.ya, .int .i64]
def L.c0_G (vs : List V) (K : V -> List Ob -> Prop) : Prop := L.c0 (gR L.ya (gA vs 0)) (gI (gA vs 1)) (fun r0 => K (.vec 0) [.vec (.int .i64) 0 r0])
def L.c0_S : SemF := fun args K => argF L.c0_ss args fun a => L.c0_G a K
theorem L.c0_ok : SoundFn L.pg 22 L.c0_S := SoundFn.of_imp Pl.ok fun args K h => argF_mono (fun a h => h.out) h
def L.Γ_b4 : Ctx := ctxC L.Γ_c0 22 L.c0_S
theorem L.Γ_b4_ok : SoundG L.pg L.Γ_b4 := ctxC_ok L.Γ_c0_ok L.c0_ok
def L.Δ_b4 : CtxO := L.Δ_c0
theorem L.Δ_b4_ok : SoundGO L.pg L.Δ_b4 := L.Δ_c0_ok
def L.b4_B (tasks : (List (List Int))) (workers : Int) (K : (List Int) -> Int -> Int -> Prop) : Prop :=
 L.a1 tasks workers (fun rCode rIndex => (bif (!((rCode == 0) && ((rIndex == 0) && true))) then K ([] : List Int) rCode rIndex else L.c0 tasks workers (fun r => K r 0 0)))
structure L.b4 (tasks : (List (List Int))) (workers : Int) (K : (List Int) -> Int -> Int -> Prop) : Prop where
 out : L.b4_B tasks workers K
def L.b4_ss : List Sh := [.ro L.ya, .int .i64]
def L.b4_G (vs : List V) (K : V -> List Ob -> Prop) : Prop := L.b4 (gR L.ya (gA vs 0)) (gI (gA vs 1)) (fun r0 r1 r2 => K (.tup [.vec 0, .agg [.xi r1, .xi r2]]) [.vec (.int .i64) 0 r0])
def L.b4_S : SemF := fun args K => argF L.b4_ss args fun a => L.b4_G a K
noncomputable abbrev L.b4_N : SemF := run L.pg L.Γ_b4 L.Δ_b4 .leaf (.tup [.sl (.int .i64), .any]) Try.f8
theorem L.b4_eq (tasks : (List (List Int))) (workers : Int) (K : V -> List Ob -> Prop) : L.b4_N [.ro L.ya tasks, .xi workers] K = L.b4_B tasks workers (fun r0 r1 r2 => K (.tup [.vec 0, .agg [.xi r1, .xi r2]]) [.vec (.int .i64) 0 r0]) := by
 kernel_rfl
theorem L.b4_imp (vs : List V) (K : V -> List Ob -> Prop) : Imp (L.b4_G vs K) (L.b4_N (mkL L.b4_ss 0 vs) K) :=
 Imp.of (Eq.trans (b := L.b4_N [.ro L.ya (gR L.ya (gA vs 0)), .xi (gI (gA vs 1))] K) (by kernel_rfl) (L.b4_eq (gR L.ya (gA vs 0)) (gI (gA vs 1)) K)) fun h => (L.b4.out h)
theorem L.b4_ok : SoundFn L.pg 8 L.b4_S :=
 fn_ok (sem := L.b4_N) (ss := L.b4_ss) (G := L.b4_G) (run_ok L.Γ_b4_ok L.Δ_b4_ok Try.func8 (ann := .leaf) (annOk_leaf _)) L.b4_imp
def L.Γ_b9 : Ctx := ctxC L.Γ_b4 8 L.b4_S
theorem L.Γ_b9_ok : SoundG L.pg L.Γ_b9 := ctxC_ok L.Γ_b4_ok L.b4_ok
def L.Δ_b9 : CtxO := L.Δ_b4
theorem L.Δ_b9_ok : SoundGO L.pg L.Δ_b9 := L.Δ_b4_ok
def L.b9_B (n c : Int) (K : Bool -> Prop) : Prop :=
 K (decide (n < c))
structure L.b9 (n c : Int) (K : Bool -> Prop) : Prop where
 out : L.b9_B n c K
def L.b9_ss : List Sh := [.int .i64, .rc [.int .i64] 0]
def L.b9_G (vs : List V) (K : V -> List Ob -> Prop) : Prop := L.b9 (gI (gA vs 0)) (gI ((gC (gA vs 1)).getD 0 .any)) (fun r0 => K (.x (.bool r0)) [])
def L.b9_S : SemF := fun args K => argF L.b9_ss args fun a => L.b9_G a K
noncomputable abbrev L.b9_N : SemF := run L.pg L.Γ_b9 L.Δ_b9 .leaf .any Try.f24
theorem L.b9_eq (n c : Int) (K : V -> List Ob -> Prop) : L.b9_N [.xi n, .rc [.xi c] 0] K = L.b9_B n c (fun r0 => K (.x (.bool r0)) []) := by
 kernel_rfl
theorem L.b9_imp (vs : List V) (K : V -> List Ob -> Prop) : Imp (L.b9_G vs K) (L.b9_N (mkL L.b9_ss 0 vs) K) :=
 Imp.of (Eq.trans (b := L.b9_N [.xi (gI (gA vs 0)), .rc [.xi (gI ((gC (gA vs 1)).getD 0 .any))] 0] K) (by kernel_rfl) (L.b9_eq (gI (gA vs 0)) (gI ((gC (gA vs 1)).getD 0 .any)) K)) fun h => (L.b9.out h)
theorem L.b9_ok : SoundFn L.pg 24 L.b9_S :=
 fn_ok (sem := L.b9_N) (ss := L.b9_ss) (G := L.b9_G) (run_ok L.Γ_b9_ok L.Δ_b9_ok Try.func24 (ann := .leaf) (annOk_leaf _)) L.b9_imp
def L.Γ_a5 : Ctx := ctxA L.Γ_b9 24 L.b9_ss L.b9_G
theorem L.Γ_a5_ok : SoundG L.pg L.Γ_a5 := ctxA_ok L.Γ_b9_ok L.b9_ok
def L.Δ_a5 : CtxO := L.Δ_b9
theorem L.Δ_a5_ok : SoundGO L.pg L.Δ_a5 := L.Δ_b9_ok
def L.a5_L1_b (s1 : (List Int)) (f1 v7 v8 : Int) (self : Int -> Prop) (Kx0 : Prop) (Kr : Int -> Prop) : Prop :=
 (bif (decide (v8 < v7)) then (inB v8 s1.length) /\ L.b9 (s1.getD v8.toNat 0) f1 (fun r => (bif r then Kr v8 else self (i64 (v8 + 1)))) else Kx0)
def L.a5_L1_R (s1 : (List Int)) (f1 v7 : Int) : Nat -> Int -> (Prop) -> (Int -> Prop) -> Prop
 | 0, _, _, _ => False
 | fu + 1, v8, Kx0, Kr => L.a5_L1_b s1 f1 v7 v8 (fun v8 => L.a5_L1_R s1 f1 v7 fu v8 Kx0 Kr) Kx0 Kr
structure L.a5_L1 (s1 : (List Int)) (f1 v7 v8 : Int) (Kx0 : Prop) (Kr : Int -> Prop) : Prop where
 out : ∃ fu, L.a5_L1_R s1 f1 v7 fu v8 Kx0 Kr
def L.a5_L1_d : LoopD := { base := 0, vecs := [], flds := [], keep := [0, 1, 7, 8], out := [], rets := [4], rv := [], rbase := 0 }
def L.a5_L1_ss : List Sh := [.ro (.int .i64), .fn 24 [] [.rc [.int .i64] 0], .int .i64, .int .i64]
def L.a5_L1_os : List OSh := []
def L.a5_L1_G (vs : List V) (st : List Ob) (K : Ex -> St) : Prop := L.a5_L1 (gR (.int .i64) (gA vs 0)) (gI ((gC ((gFc (gA vs 1)).getD 0 .any)).getD 0 .any)) (gI (gA vs 2)) (gI (gA vs 3)) (K (.exit 0) (bld [] [] 0 19) []) (fun q0_ => K .ret (bld [4] [.xi q0_] 0 19) [])
def L.a5_L1_F (vs : List V) (st : List Ob) (K : Ex -> St) : Prop := fitF L.a5_L1_ss L.a5_L1_os vs st (L.a5_L1_G vs st K)
theorem L.a5_L1_eq (s1 : (List Int)) (f1 v7 : Int) (K : Ex -> St) : ∀ (fu : Nat) (v8 : Int), L.a5_L1_R s1 f1 v7 fu v8 (K (.exit 0) (bld [] [] 0 19) []) (fun q0_ => K .ret (bld [4] [.xi q0_] 0 19) []) = iterL (stepL (L.ex L.Γ_a5 L.Δ_a5 .leaf (sub [true, false, true, false, false] (codeOf Try.f23))) 0 L.a5_L1_d K) fu (bld L.a5_L1_d.keep [.ro (.int .i64) s1, .fn (.func 24) [] [.rc [.xi f1] 0], .xi v7, .xi v8] 0 19) [] := by
 intro fu
 induction fu with
 | zero => intros; rfl
 | succ fu ih =>
  intro v8
  have e : (fun v8 => L.a5_L1_R s1 f1 v7 fu v8 (K (.exit 0) (bld [] [] 0 19) []) (fun q0_ => K .ret (bld [4] [.xi q0_] 0 19) [])) = fun v8 => iterL (stepL (L.ex L.Γ_a5 L.Δ_a5 .leaf (sub [true, false, true, false, false] (codeOf Try.f23))) 0 L.a5_L1_d K) fu (bld L.a5_L1_d.keep [.ro (.int .i64) s1, .fn (.func 24) [] [.rc [.xi f1] 0], .xi v7, .xi v8] 0 19) [] := by
   funext v8; exact ih v8
  show L.a5_L1_b s1 f1 v7 v8 (fun v8 => L.a5_L1_R s1 f1 v7 fu v8 (K (.exit 0) (bld [] [] 0 19) []) (fun q0_ => K .ret (bld [4] [.xi q0_] 0 19) [])) (K (.exit 0) (bld [] [] 0 19) []) (fun q0_ => K .ret (bld [4] [.xi q0_] 0 19) []) = _
  rw [e]
  kernel_rfl
theorem L.a5_L1_imp (vs : List V) (st : List Ob) (K : Ex -> St) (h : L.a5_L1_G vs st K) : ∃ fu, iterL (stepL (L.ex L.Γ_a5 L.Δ_a5 .leaf (sub [true, false, true, false, false] (codeOf Try.f23))) 0 L.a5_L1_d K) fu (bld L.a5_L1_d.keep (mkL L.a5_L1_ss 0 vs) 0 19) (mkOs L.a5_L1_os 0 st) :=
 exMap (fun fu h => @Eq.mp _ _ (Eq.trans (L.a5_L1_eq (gR (.int .i64) (gA vs 0)) (gI ((gC ((gFc (gA vs 1)).getD 0 .any)).getD 0 .any)) (gI (gA vs 2)) K fu (gI (gA vs 3))) (by kernel_rfl)) h) (L.a5_L1.out h)
theorem L.a5_L1_ok : AnnOk L.pg (CC L.pg L.Γ_a5 L.Δ_a5) (drawD L.pg L.Γ_a5 L.Δ_a5) 0 (.lift L.a5_L1_d 19 L.a5_L1_F) (.loop (sub [true, false, true, false, false] (codeOf Try.f23))) :=
 lift_ok (an := .leaf) (ss := L.a5_L1_ss) (os := L.a5_L1_os) (G := L.a5_L1_G) rfl (Nat.le_of_ble_eq_true rfl) (annOk_leaf _) (L.a5_L1_imp)
def L.a5_B (s : (List Int)) (f : Int) (K : Int -> Prop) : Prop :=
 L.a5_L1 s f (s.length : Int) 0 (K (-1)) (fun r => K r)
structure L.a5 (s : (List Int)) (f : Int) (K : Int -> Prop) : Prop where
 out : L.a5_B s f K
def L.a5_ss : List Sh := [.ro (.int .i64), .fn 24 [] [.rc [.int .i64] 0]]
def L.a5_G (vs : List V) (K : V -> List Ob -> Prop) : Prop := L.a5 (gR (.int .i64) (gA vs 0)) (gI ((gC ((gFc (gA vs 1)).getD 0 .any)).getD 0 .any)) (fun r0 => K (.xi r0) [])
def L.a5_S : SemF := fun args K => argF L.a5_ss args fun a => L.a5_G a K
noncomputable abbrev L.a5_N : SemF := run L.pg L.Γ_a5 L.Δ_a5 (.node .leaf (.node (.node .leaf (.lift L.a5_L1_d 19 L.a5_L1_F)) .leaf)) .any Try.f23
theorem L.a5_eq (s : (List Int)) (f : Int) (K : V -> List Ob -> Prop) : L.a5_N [.ro (.int .i64) s, .fn (.func 24) [] [.rc [.xi f] 0]] K = L.a5_B s f (fun r0 => K (.xi r0) []) := by
 kernel_rfl
theorem L.a5_imp (vs : List V) (K : V -> List Ob -> Prop) : Imp (L.a5_G vs K) (L.a5_N (mkL L.a5_ss 0 vs) K) :=
 Imp.of (Eq.trans (b := L.a5_N [.ro (.int .i64) (gR (.int .i64) (gA vs 0)), .fn (.func 24) [] [.rc [.xi (gI ((gC ((gFc (gA vs 1)).getD 0 .any)).getD 0 .any))] 0]] K) (by kernel_rfl) (L.a5_eq (gR (.int .i64) (gA vs 0)) (gI ((gC ((gFc (gA vs 1)).getD 0 .any)).getD 0 .any)) K)) fun h => (L.a5.out h)
theorem L.a5_ok : SoundFn L.pg 23 L.a5_S :=
 fn_ok (sem := L.a5_N) (ss := L.a5_ss) (G := L.a5_G) (run_ok L.Γ_a5_ok L.Δ_a5_ok Try.func23 (ann := (.node .leaf (.node (.node .leaf (.lift L.a5_L1_d 19 L.a5_L1_F)) .leaf))) ⟨(annOk_leaf _), ⟨⟨(annOk_leaf _), L.a5_L1_ok⟩, (annOk_leaf _)⟩⟩) L.a5_imp
def L.Γ_b3 : Ctx := ctxA L.Γ_a5 23 L.a5_ss L.a5_G
theorem L.Γ_b3_ok : SoundG L.pg L.Γ_b3 := ctxA_ok L.Γ_a5_ok L.a5_ok
def L.Δ_b3 : CtxO := L.Δ_a5
theorem L.Δ_b3_ok : SoundGO L.pg L.Δ_b3 := L.Δ_a5_ok
def L.b3_B (tasks : (List (List Int))) (workers limit : Int) (K : Int -> Int -> Int -> Prop) : Prop :=
 L.b4 tasks workers (fun r rCode rIndex => (bif (!((rCode == 0) && ((rIndex == 0) && true))) then K 0 rCode rIndex else (bif (bif (decide (limit < 0)) then true else (decide (limit > 2305843009213693951))) then K 0 3 (-3) else L.a5 r limit (fun r1 => (bif (decide (r1 < 0)) then K 0 6 (-4) else K r1 0 0)))))
structure L.b3 (tasks : (List (List Int))) (workers limit : Int) (K : Int -> Int -> Int -> Prop) : Prop where
 out : L.b3_B tasks workers limit K
def L.b3_ss : List Sh := [.ro L.ya, .int .i64, .int .i64]
def L.b3_G (vs : List V) (K : V -> List Ob -> Prop) : Prop := L.b3 (gR L.ya (gA vs 0)) (gI (gA vs 1)) (gI (gA vs 2)) (fun r0 r1 r2 => K (.tup [.xi r0, .agg [.xi r1, .xi r2]]) [])
def L.b3_S : SemF := fun args K => argF L.b3_ss args fun a => L.b3_G a K
noncomputable abbrev L.b3_N : SemF := run L.pg L.Γ_b3 L.Δ_b3 .leaf .any Try.f9
theorem L.b3_eq (tasks : (List (List Int))) (workers limit : Int) (K : V -> List Ob -> Prop) : L.b3_N [.ro L.ya tasks, .xi workers, .xi limit] K = L.b3_B tasks workers limit (fun r0 r1 r2 => K (.tup [.xi r0, .agg [.xi r1, .xi r2]]) []) := by
 kernel_rfl
theorem L.b3_imp (vs : List V) (K : V -> List Ob -> Prop) : Imp (L.b3_G vs K) (L.b3_N (mkL L.b3_ss 0 vs) K) :=
 Imp.of (Eq.trans (b := L.b3_N [.ro L.ya (gR L.ya (gA vs 0)), .xi (gI (gA vs 1)), .xi (gI (gA vs 2))] K) (by kernel_rfl) (L.b3_eq (gR L.ya (gA vs 0)) (gI (gA vs 1)) (gI (gA vs 2)) K)) fun h => (L.b3.out h)
theorem L.b3_ok : SoundFn L.pg 9 L.b3_S :=
 fn_ok (sem := L.b3_N) (ss := L.b3_ss) (G := L.b3_G) (run_ok L.Γ_b3_ok L.Δ_b3_ok Try.func9 (ann := .leaf) (annOk_leaf _)) L.b3_imp
def L.Γ_a6 : Ctx := ctxC L.Γ_b3 9 L.b3_S
theorem L.Γ_a6_ok : SoundG L.pg L.Γ_a6 := ctxC_ok L.Γ_b3_ok L.b3_ok
def L.Δ_a6 : CtxO := L.Δ_b3
theorem L.Δ_a6_ok : SoundGO L.pg L.Δ_a6 := L.Δ_b3_ok
def L.a6_L1_b (a1 b1 sum : Int) (self : Int -> Int -> Int -> Prop) (Kx0 : Int -> Prop) : Prop :=
 (bif (decide (b1 > 0)) then ((2 : Int) ≠ 0) /\ (bif ((b1.tmod 2) == 1) then ((2305843009213693951 : Int) ≠ 0) /\ ((2305843009213693951 : Int) ≠ 0) /\ ((2 : Int) ≠ 0) /\ self ((i64 ((2 : Int) * a1)).tmod 2305843009213693951) (i64 (b1.tdiv 2)) ((i64 (sum + a1)).tmod 2305843009213693951) else ((2305843009213693951 : Int) ≠ 0) /\ ((2 : Int) ≠ 0) /\ self ((i64 ((2 : Int) * a1)).tmod 2305843009213693951) (i64 (b1.tdiv 2)) sum) else Kx0 sum)
def L.a6_L1_R  : Nat -> Int -> Int -> Int -> (Int -> Prop) -> Prop
 | 0, _, _, _, _ => False
 | fu + 1, a1, b1, sum, Kx0 => L.a6_L1_b a1 b1 sum (fun a1 b1 sum => L.a6_L1_R fu a1 b1 sum Kx0) Kx0
structure L.a6_L1 (a1 b1 sum : Int) (Kx0 : Int -> Prop) : Prop where
 out : ∃ fu, L.a6_L1_R fu a1 b1 sum Kx0
def L.a6_L1_d : LoopD := { base := 0, vecs := [], flds := [], keep := [0, 1, 5], out := [5], rets := [4], rv := [], rbase := 0 }
def L.a6_L1_ss : List Sh := [.int .i64, .int .i64, .int .i64]
def L.a6_L1_os : List OSh := []
def L.a6_L1_G (vs : List V) (st : List Ob) (K : Ex -> St) : Prop := L.a6_L1 (gI (gA vs 0)) (gI (gA vs 1)) (gI (gA vs 2)) (fun q0_ => K (.exit 0) (bld [5] [.xi q0_] 0 21) [])
def L.a6_L1_F (vs : List V) (st : List Ob) (K : Ex -> St) : Prop := fitF L.a6_L1_ss L.a6_L1_os vs st (L.a6_L1_G vs st K)
theorem L.a6_L1_eq  (K : Ex -> St) : ∀ (fu : Nat) (a1 : Int) (b1 : Int) (sum : Int), L.a6_L1_R fu a1 b1 sum (fun q0_ => K (.exit 0) (bld [5] [.xi q0_] 0 21) []) = iterL (stepL (L.ex L.Γ_a6 L.Δ_a6 .leaf (sub [true, true, false, false, false] (codeOf Try.f38))) 0 L.a6_L1_d K) fu (bld L.a6_L1_d.keep [.xi a1, .xi b1, .xi sum] 0 21) [] := by
 intro fu
 induction fu with
 | zero => intros; rfl
 | succ fu ih =>
  intro a1 b1 sum
  have e : (fun a1 b1 sum => L.a6_L1_R fu a1 b1 sum (fun q0_ => K (.exit 0) (bld [5] [.xi q0_] 0 21) [])) = fun a1 b1 sum => iterL (stepL (L.ex L.Γ_a6 L.Δ_a6 .leaf (sub [true, true, false, false, false] (codeOf Try.f38))) 0 L.a6_L1_d K) fu (bld L.a6_L1_d.keep [.xi a1, .xi b1, .xi sum] 0 21) [] := by
   funext a1 b1 sum; exact ih a1 b1 sum
  show L.a6_L1_b a1 b1 sum (fun a1 b1 sum => L.a6_L1_R fu a1 b1 sum (fun q0_ => K (.exit 0) (bld [5] [.xi q0_] 0 21) [])) (fun q0_ => K (.exit 0) (bld [5] [.xi q0_] 0 21) []) = _
  rw [e]
  kernel_rfl
theorem L.a6_L1_imp (vs : List V) (st : List Ob) (K : Ex -> St) (h : L.a6_L1_G vs st K) : ∃ fu, iterL (stepL (L.ex L.Γ_a6 L.Δ_a6 .leaf (sub [true, true, false, false, false] (codeOf Try.f38))) 0 L.a6_L1_d K) fu (bld L.a6_L1_d.keep (mkL L.a6_L1_ss 0 vs) 0 21) (mkOs L.a6_L1_os 0 st) :=
 exMap (fun fu h => @Eq.mp _ _ (Eq.trans (L.a6_L1_eq  K fu (gI (gA vs 0)) (gI (gA vs 1)) (gI (gA vs 2))) (by kernel_rfl)) h) (L.a6_L1.out h)
theorem L.a6_L1_ok : AnnOk L.pg (CC L.pg L.Γ_a6 L.Δ_a6) (drawD L.pg L.Γ_a6 L.Δ_a6) 0 (.lift L.a6_L1_d 21 L.a6_L1_F) (.loop (sub [true, true, false, false, false] (codeOf Try.f38))) :=
 lift_ok (an := .leaf) (ss := L.a6_L1_ss) (os := L.a6_L1_os) (G := L.a6_L1_G) rfl (Nat.le_of_ble_eq_true rfl) (annOk_leaf _) (L.a6_L1_imp)
def L.a6_B (a b : Int) (K : Int -> Prop) : Prop :=
 L.a6_L1 a b 0 (fun sum => K sum)
structure L.a6 (a b : Int) (K : Int -> Prop) : Prop where
 out : L.a6_B a b K
def L.a6_ss : List Sh := [.int .i64, .int .i64]
def L.a6_G (vs : List V) (K : V -> List Ob -> Prop) : Prop := L.a6 (gI (gA vs 0)) (gI (gA vs 1)) (fun r0 => K (.xi r0) [])
def L.a6_S : SemF := fun args K => argF L.a6_ss args fun a => L.a6_G a K
noncomputable abbrev L.a6_N : SemF := run L.pg L.Γ_a6 L.Δ_a6 (.node .leaf (.node .leaf (.node (.lift L.a6_L1_d 21 L.a6_L1_F) .leaf))) .any Try.f38
theorem L.a6_eq (a b : Int) (K : V -> List Ob -> Prop) : L.a6_N [.xi a, .xi b] K = L.a6_B a b (fun r0 => K (.xi r0) []) := by
 kernel_rfl
theorem L.a6_imp (vs : List V) (K : V -> List Ob -> Prop) : Imp (L.a6_G vs K) (L.a6_N (mkL L.a6_ss 0 vs) K) :=
 Imp.of (Eq.trans (b := L.a6_N [.xi (gI (gA vs 0)), .xi (gI (gA vs 1))] K) (by kernel_rfl) (L.a6_eq (gI (gA vs 0)) (gI (gA vs 1)) K)) fun h => (L.a6.out h)
theorem L.a6_ok : SoundFn L.pg 38 L.a6_S :=
 fn_ok (sem := L.a6_N) (ss := L.a6_ss) (G := L.a6_G) (run_ok L.Γ_a6_ok L.Δ_a6_ok Try.func38 (ann := (.node .leaf (.node .leaf (.node (.lift L.a6_L1_d 21 L.a6_L1_F) .leaf)))) ⟨(annOk_leaf _), ⟨(annOk_leaf _), ⟨L.a6_L1_ok, (annOk_leaf _)⟩⟩⟩) L.a6_imp
def L.Γ_b8 : Ctx := ctxC L.Γ_a6 38 L.a6_S
theorem L.Γ_b8_ok : SoundG L.pg L.Γ_b8 := ctxC_ok L.Γ_a6_ok L.a6_ok
def L.Δ_b8 : CtxO := L.Δ_a6
theorem L.Δ_b8_ok : SoundGO L.pg L.Δ_b8 := L.Δ_a6_ok
def L.b8_B (a b : Int) (K : Int -> Prop) : Prop :=
 L.a6 a 1000003 (fun r => L.a6 b 31 (fun r1 => ((2305843009213693951 : Int) ≠ 0) /\ K ((i64 ((i64 (r + r1)) + 7)).tmod 2305843009213693951)))
structure L.b8 (a b : Int) (K : Int -> Prop) : Prop where
 out : L.b8_B a b K
def L.b8_ss : List Sh := [.int .i64, .int .i64]
def L.b8_G (vs : List V) (K : V -> List Ob -> Prop) : Prop := L.b8 (gI (gA vs 0)) (gI (gA vs 1)) (fun r0 => K (.xi r0) [])
def L.b8_S : SemF := fun args K => argF L.b8_ss args fun a => L.b8_G a K
noncomputable abbrev L.b8_N : SemF := run L.pg L.Γ_b8 L.Δ_b8 .leaf .any Try.f25
theorem L.b8_eq (a b : Int) (K : V -> List Ob -> Prop) : L.b8_N [.xi a, .xi b] K = L.b8_B a b (fun r0 => K (.xi r0) []) := by
 kernel_rfl
theorem L.b8_imp (vs : List V) (K : V -> List Ob -> Prop) : Imp (L.b8_G vs K) (L.b8_N (mkL L.b8_ss 0 vs) K) :=
 Imp.of (Eq.trans (b := L.b8_N [.xi (gI (gA vs 0)), .xi (gI (gA vs 1))] K) (by kernel_rfl) (L.b8_eq (gI (gA vs 0)) (gI (gA vs 1)) K)) fun h => (L.b8.out h)
theorem L.b8_ok : SoundFn L.pg 25 L.b8_S :=
 fn_ok (sem := L.b8_N) (ss := L.b8_ss) (G := L.b8_G) (run_ok L.Γ_b8_ok L.Δ_b8_ok Try.func25 (ann := .leaf) (annOk_leaf _)) L.b8_imp
def L.Γ_a3 : Ctx := ctxC L.Γ_b8 25 L.b8_S
theorem L.Γ_a3_ok : SoundG L.pg L.Γ_a3 := ctxC_ok L.Γ_b8_ok L.b8_ok
def L.Δ_a3 : CtxO := L.Δ_b8
theorem L.Δ_a3_ok : SoundGO L.pg L.Δ_a3 := L.Δ_b8_ok
def L.a3_L1_b (a1 b1 : (List Int)) (i_ : Int) (self : Int -> Prop) (Kx0 : Prop) (Kr : Bool -> Prop) : Prop :=
 (bif (decide (i_ < (a1.length : Int))) then (inB i_ a1.length) /\ (inB i_ b1.length) /\ (bif ((a1.getD i_.toNat 0) != (b1.getD i_.toNat 0)) then Kr false else self (i64 (i_ + 1))) else Kx0)
def L.a3_L1_R (a1 b1 : (List Int)) : Nat -> Int -> (Prop) -> (Bool -> Prop) -> Prop
 | 0, _, _, _ => False
 | fu + 1, i_, Kx0, Kr => L.a3_L1_b a1 b1 i_ (fun i_ => L.a3_L1_R a1 b1 fu i_ Kx0 Kr) Kx0 Kr
structure L.a3_L1 (a1 b1 : (List Int)) (i_ : Int) (Kx0 : Prop) (Kr : Bool -> Prop) : Prop where
 out : ∃ fu, L.a3_L1_R a1 b1 fu i_ Kx0 Kr
def L.a3_L1_d : LoopD := { base := 0, vecs := [], flds := [], keep := [0, 1, 5], out := [], rets := [4], rv := [], rbase := 0 }
def L.a3_L1_ss : List Sh := [.ro (.int .i64), .ro (.int .i64), .int .i64]
def L.a3_L1_os : List OSh := []
def L.a3_L1_G (vs : List V) (st : List Ob) (K : Ex -> St) : Prop := L.a3_L1 (gR (.int .i64) (gA vs 0)) (gR (.int .i64) (gA vs 1)) (gI (gA vs 2)) (K (.exit 0) (bld [] [] 0 26) []) (fun q0_ => K .ret (bld [4] [.x (.bool q0_)] 0 26) [])
def L.a3_L1_F (vs : List V) (st : List Ob) (K : Ex -> St) : Prop := fitF L.a3_L1_ss L.a3_L1_os vs st (L.a3_L1_G vs st K)
theorem L.a3_L1_eq (a1 b1 : (List Int)) (K : Ex -> St) : ∀ (fu : Nat) (i_ : Int), L.a3_L1_R a1 b1 fu i_ (K (.exit 0) (bld [] [] 0 26) []) (fun q0_ => K .ret (bld [4] [.x (.bool q0_)] 0 26) []) = iterL (stepL (L.ex L.Γ_a3 L.Δ_a3 .leaf (sub [true, true, false, true, false, false] (codeOf Try.f11))) 0 L.a3_L1_d K) fu (bld L.a3_L1_d.keep [.ro (.int .i64) a1, .ro (.int .i64) b1, .xi i_] 0 26) [] := by
 intro fu
 induction fu with
 | zero => intros; rfl
 | succ fu ih =>
  intro i_
  have e : (fun i_ => L.a3_L1_R a1 b1 fu i_ (K (.exit 0) (bld [] [] 0 26) []) (fun q0_ => K .ret (bld [4] [.x (.bool q0_)] 0 26) [])) = fun i_ => iterL (stepL (L.ex L.Γ_a3 L.Δ_a3 .leaf (sub [true, true, false, true, false, false] (codeOf Try.f11))) 0 L.a3_L1_d K) fu (bld L.a3_L1_d.keep [.ro (.int .i64) a1, .ro (.int .i64) b1, .xi i_] 0 26) [] := by
   funext i_; exact ih i_
  show L.a3_L1_b a1 b1 i_ (fun i_ => L.a3_L1_R a1 b1 fu i_ (K (.exit 0) (bld [] [] 0 26) []) (fun q0_ => K .ret (bld [4] [.x (.bool q0_)] 0 26) [])) (K (.exit 0) (bld [] [] 0 26) []) (fun q0_ => K .ret (bld [4] [.x (.bool q0_)] 0 26) []) = _
  rw [e]
  kernel_rfl
theorem L.a3_L1_imp (vs : List V) (st : List Ob) (K : Ex -> St) (h : L.a3_L1_G vs st K) : ∃ fu, iterL (stepL (L.ex L.Γ_a3 L.Δ_a3 .leaf (sub [true, true, false, true, false, false] (codeOf Try.f11))) 0 L.a3_L1_d K) fu (bld L.a3_L1_d.keep (mkL L.a3_L1_ss 0 vs) 0 26) (mkOs L.a3_L1_os 0 st) :=
 exMap (fun fu h => @Eq.mp _ _ (Eq.trans (L.a3_L1_eq (gR (.int .i64) (gA vs 0)) (gR (.int .i64) (gA vs 1)) K fu (gI (gA vs 2))) (by kernel_rfl)) h) (L.a3_L1.out h)
theorem L.a3_L1_ok : AnnOk L.pg (CC L.pg L.Γ_a3 L.Δ_a3) (drawD L.pg L.Γ_a3 L.Δ_a3) 0 (.lift L.a3_L1_d 26 L.a3_L1_F) (.loop (sub [true, true, false, true, false, false] (codeOf Try.f11))) :=
 lift_ok (an := .leaf) (ss := L.a3_L1_ss) (os := L.a3_L1_os) (G := L.a3_L1_G) rfl (Nat.le_of_ble_eq_true rfl) (annOk_leaf _) (L.a3_L1_imp)
def L.a3_B (a b : (List Int)) (K : Bool -> Prop) : Prop :=
 (bif ((a.length : Int) != (b.length : Int)) then K false else L.a3_L1 a b 0 (K true) (fun r => K r))
structure L.a3 (a b : (List Int)) (K : Bool -> Prop) : Prop where
 out : L.a3_B a b K
def L.a3_ss : List Sh := [.ro (.int .i64), .ro (.int .i64)]
def L.a3_G (vs : List V) (K : V -> List Ob -> Prop) : Prop := L.a3 (gR (.int .i64) (gA vs 0)) (gR (.int .i64) (gA vs 1)) (fun r0 => K (.x (.bool r0)) [])
def L.a3_S : SemF := fun args K => argF L.a3_ss args fun a => L.a3_G a K
noncomputable abbrev L.a3_N : SemF := run L.pg L.Γ_a3 L.Δ_a3 (.node .leaf (.node .leaf (.node (.node .leaf (.lift L.a3_L1_d 26 L.a3_L1_F)) .leaf))) .any Try.f11
theorem L.a3_eq (a b : (List Int)) (K : V -> List Ob -> Prop) : L.a3_N [.ro (.int .i64) a, .ro (.int .i64) b] K = L.a3_B a b (fun r0 => K (.x (.bool r0)) []) := by
 kernel_rfl
theorem L.a3_imp (vs : List V) (K : V -> List Ob -> Prop) : Imp (L.a3_G vs K) (L.a3_N (mkL L.a3_ss 0 vs) K) :=
 Imp.of (Eq.trans (b := L.a3_N [.ro (.int .i64) (gR (.int .i64) (gA vs 0)), .ro (.int .i64) (gR (.int .i64) (gA vs 1))] K) (by kernel_rfl) (L.a3_eq (gR (.int .i64) (gA vs 0)) (gR (.int .i64) (gA vs 1)) K)) fun h => (L.a3.out h)
theorem L.a3_ok : SoundFn L.pg 11 L.a3_S :=
 fn_ok (sem := L.a3_N) (ss := L.a3_ss) (G := L.a3_G) (run_ok L.Γ_a3_ok L.Δ_a3_ok Try.func11 (ann := (.node .leaf (.node .leaf (.node (.node .leaf (.lift L.a3_L1_d 26 L.a3_L1_F)) .leaf)))) ⟨(annOk_leaf _), ⟨(annOk_leaf _), ⟨⟨(annOk_leaf _), L.a3_L1_ok⟩, (annOk_leaf _)⟩⟩⟩) L.a3_imp
def L.Γ_b7 : Ctx := ctxC L.Γ_a3 11 L.a3_S
theorem L.Γ_b7_ok : SoundG L.pg L.Γ_b7 := ctxC_ok L.Γ_a3_ok L.a3_ok
def L.Δ_b7 : CtxO := L.Δ_a3
theorem L.Δ_b7_ok : SoundGO L.pg L.Δ_b7 := L.Δ_a3_ok
def L.b7_B (K : Bool -> Prop) : Prop :=
 L.b4 ([([] : List Int), ([5] : List Int)] : List (List Int)) 2 (fun r rCode rIndex => L.b3 ([([5] : List Int), ([] : List Int)] : List (List Int)) 2 1 (fun r1 rCode1 rIndex1 => L.a2 ([([] : List Int), ([] : List Int), ([] : List Int)] : List (List Int)) 2 (fun r2 r3 rCode2 rIndex2 => (((((r.length : Int) == 2) == true) = true -> inB 0 r.length)) /\ ((((bif ((r.length : Int) == 2) then ((r.getD ((0 : Int).toNat) 0) == 0) else false) == true) = true -> inB 1 r.length)) /\ (bif okAll [((bif ((r.length : Int) == 2) then ((r.getD ((0 : Int).toNat) 0) == 0) else false), true)] then L.b8 0 5 (fun r4 => (bif okAll [((bif ((r.getD ((1 : Int).toNat) 0) == r4) then (r1 == 1) else false), true)] then L.a3 r2 ([0, 1, 0] : List Int) (fun r5 => K (bif (bif (bif (bif r5 then (r3 == 2) else false) then (rCode == 0) else false) then (rCode1 == 0) else false) then (rCode2 == 0) else false)) else K (bif (bif (bif (bif false then (r3 == 2) else false) then (rCode == 0) else false) then (rCode1 == 0) else false) then (rCode2 == 0) else false))) else (bif okAll [((bif false then (r1 == 1) else false), true)] then L.a3 r2 ([0, 1, 0] : List Int) (fun r6 => K (bif (bif (bif (bif r6 then (r3 == 2) else false) then (rCode == 0) else false) then (rCode1 == 0) else false) then (rCode2 == 0) else false)) else K (bif (bif (bif (bif false then (r3 == 2) else false) then (rCode == 0) else false) then (rCode1 == 0) else false) then (rCode2 == 0) else false))))))
structure L.b7 (K : Bool -> Prop) : Prop where
 out : L.b7_B K
def L.b7_ss : List Sh := []
def L.b7_G (vs : List V) (K : V -> List Ob -> Prop) : Prop := L.b7 (fun r0 => K (.x (.bool r0)) [])
def L.b7_S : SemF := fun args K => argF L.b7_ss args fun a => L.b7_G a K
noncomputable abbrev L.b7_N : SemF := run L.pg L.Γ_b7 L.Δ_b7 .leaf .any Try.f10
theorem L.b7_eq (K : V -> List Ob -> Prop) : L.b7_N [] K = L.b7_B (fun r0 => K (.x (.bool r0)) []) := by
 kernel_rfl
theorem L.b7_imp (vs : List V) (K : V -> List Ob -> Prop) : Imp (L.b7_G vs K) (L.b7_N (mkL L.b7_ss 0 vs) K) :=
 Imp.of (Eq.trans (b := L.b7_N [] K) (by kernel_rfl) (L.b7_eq K)) fun h => (L.b7.out h)
theorem L.b7_ok : SoundFn L.pg 10 L.b7_S :=
 fn_ok (sem := L.b7_N) (ss := L.b7_ss) (G := L.b7_G) (run_ok L.Γ_b7_ok L.Δ_b7_ok Try.func10 (ann := .leaf) (annOk_leaf _)) L.b7_imp
def L.Γ_a0 : Ctx := ctxC L.Γ_b7 10 L.b7_S
theorem L.Γ_a0_ok : SoundG L.pg L.Γ_a0 := ctxC_ok L.Γ_b7_ok L.b7_ok
def L.Δ_a0 : CtxO := L.Δ_b7
theorem L.Δ_a0_ok : SoundGO L.pg L.Δ_a0 := L.Δ_b7_ok
def L.a0_L1_b (l1 : (List Int)) (n1 i_ : Int) (out : (List Int)) (self : Int -> (List Int) -> Prop) (Kx0 : (List Int) -> Prop) : Prop :=
 (bif (decide (i_ < (l1.length : Int))) then (inB i_ l1.length) /\ (bif ((l1.getD i_.toNat 0) != n1) then (inB i_ l1.length) /\ (fits (out.length + ([(l1.getD i_.toNat 0)] : List Int).length)) /\ self (i64 (i_ + 1)) (out ++ ([(l1.getD i_.toNat 0)] : List Int)) else self (i64 (i_ + 1)) out) else Kx0 out)
def L.a0_L1_R (l1 : (List Int)) (n1 : Int) : Nat -> Int -> (List Int) -> ((List Int) -> Prop) -> Prop
 | 0, _, _, _ => False
 | fu + 1, i_, out, Kx0 => L.a0_L1_b l1 n1 i_ out (fun i_ out => L.a0_L1_R l1 n1 fu i_ out Kx0) Kx0
structure L.a0_L1 (l1 : (List Int)) (n1 i_ : Int) (out : (List Int)) (Kx0 : (List Int) -> Prop) : Prop where
 out : ∃ fu, L.a0_L1_R l1 n1 fu i_ out Kx0
def L.a0_L1_d : LoopD := { base := 0, vecs := [(5, .sl (.int .i64))], flds := [], keep := [0, 1, 5, 6], out := [5], rets := [4], rv := [], rbase := 0 }
def L.a0_L1_ss : List Sh := [.ro (.int .i64), .int .i64, .vec 0, .int .i64]
def L.a0_L1_os : List OSh := [.vec (.int .i64) true]
def L.a0_L1_G (vs : List V) (st : List Ob) (K : Ex -> St) : Prop := L.a0_L1 (gR (.int .i64) (gA vs 0)) (gI (gA vs 1)) (gI (gA vs 3)) (oX (.int .i64) (gD st 0)) (fun q0_ => K (.exit 0) (bld [5] [.vec 0] 0 27) [.vec (.int .i64) 0 q0_])
def L.a0_L1_F (vs : List V) (st : List Ob) (K : Ex -> St) : Prop := fitF L.a0_L1_ss L.a0_L1_os vs st (L.a0_L1_G vs st K)
theorem L.a0_L1_eq (l1 : (List Int)) (n1 : Int) (K : Ex -> St) : ∀ (fu : Nat) (i_ : Int) (out : (List Int)), L.a0_L1_R l1 n1 fu i_ out (fun q0_ => K (.exit 0) (bld [5] [.vec 0] 0 27) [.vec (.int .i64) 0 q0_]) = iterL (stepL (L.ex L.Γ_a0 L.Δ_a0 .leaf (sub [true, true, false, true, false, false] (codeOf Try.f14))) 0 L.a0_L1_d K) fu (bld L.a0_L1_d.keep [.ro (.int .i64) l1, .xi n1, .vec 0, .xi i_] 0 27) [.vec (.int .i64) 0 out] := by
 intro fu
 induction fu with
 | zero => intros; rfl
 | succ fu ih =>
  intro i_ out
  have e : (fun i_ out => L.a0_L1_R l1 n1 fu i_ out (fun q0_ => K (.exit 0) (bld [5] [.vec 0] 0 27) [.vec (.int .i64) 0 q0_])) = fun i_ out => iterL (stepL (L.ex L.Γ_a0 L.Δ_a0 .leaf (sub [true, true, false, true, false, false] (codeOf Try.f14))) 0 L.a0_L1_d K) fu (bld L.a0_L1_d.keep [.ro (.int .i64) l1, .xi n1, .vec 0, .xi i_] 0 27) [.vec (.int .i64) 0 out] := by
   funext i_ out; exact ih i_ out
  show L.a0_L1_b l1 n1 i_ out (fun i_ out => L.a0_L1_R l1 n1 fu i_ out (fun q0_ => K (.exit 0) (bld [5] [.vec 0] 0 27) [.vec (.int .i64) 0 q0_])) (fun q0_ => K (.exit 0) (bld [5] [.vec 0] 0 27) [.vec (.int .i64) 0 q0_]) = _
  rw [e]
  kernel_rfl
theorem L.a0_L1_imp (vs : List V) (st : List Ob) (K : Ex -> St) (h : L.a0_L1_G vs st K) : ∃ fu, iterL (stepL (L.ex L.Γ_a0 L.Δ_a0 .leaf (sub [true, true, false, true, false, false] (codeOf Try.f14))) 0 L.a0_L1_d K) fu (bld L.a0_L1_d.keep (mkL L.a0_L1_ss 0 vs) 0 27) (mkOs L.a0_L1_os 0 st) :=
 exMap (fun fu h => @Eq.mp _ _ (Eq.trans (L.a0_L1_eq (gR (.int .i64) (gA vs 0)) (gI (gA vs 1)) K fu (gI (gA vs 3)) (oX (.int .i64) (gD st 0))) (by kernel_rfl)) h) (L.a0_L1.out h)
theorem L.a0_L1_ok : AnnOk L.pg (CC L.pg L.Γ_a0 L.Δ_a0) (drawD L.pg L.Γ_a0 L.Δ_a0) 0 (.lift L.a0_L1_d 27 L.a0_L1_F) (.loop (sub [true, true, false, true, false, false] (codeOf Try.f14))) :=
 lift_ok (an := .leaf) (ss := L.a0_L1_ss) (os := L.a0_L1_os) (G := L.a0_L1_G) rfl (Nat.le_of_ble_eq_true rfl) (annOk_leaf _) (L.a0_L1_imp)
def L.a0_B (l : (List Int)) (n : Int) (K : (List Int) -> Prop) : Prop :=
 L.a0_L1 l n 0 ([] : List Int) (fun out => K out)
structure L.a0 (l : (List Int)) (n : Int) (K : (List Int) -> Prop) : Prop where
 out : L.a0_B l n K
def L.a0_ss : List Sh := [.ro (.int .i64), .int .i64]
def L.a0_G (vs : List V) (K : V -> List Ob -> Prop) : Prop := L.a0 (gR (.int .i64) (gA vs 0)) (gI (gA vs 1)) (fun r0 => K (.vec 0) [.vec (.int .i64) 0 r0])
def L.a0_S : SemF := fun args K => argF L.a0_ss args fun a => L.a0_G a K
noncomputable abbrev L.a0_N : SemF := run L.pg L.Γ_a0 L.Δ_a0 (.node .leaf (.node .leaf (.node (.node .leaf (.lift L.a0_L1_d 27 L.a0_L1_F)) .leaf))) (.sl (.int .i64)) Try.f14
theorem L.a0_eq (l : (List Int)) (n : Int) (K : V -> List Ob -> Prop) : L.a0_N [.ro (.int .i64) l, .xi n] K = L.a0_B l n (fun r0 => K (.vec 0) [.vec (.int .i64) 0 r0]) := by
 kernel_rfl
theorem L.a0_imp (vs : List V) (K : V -> List Ob -> Prop) : Imp (L.a0_G vs K) (L.a0_N (mkL L.a0_ss 0 vs) K) :=
 Imp.of (Eq.trans (b := L.a0_N [.ro (.int .i64) (gR (.int .i64) (gA vs 0)), .xi (gI (gA vs 1))] K) (by kernel_rfl) (L.a0_eq (gR (.int .i64) (gA vs 0)) (gI (gA vs 1)) K)) fun h => (L.a0.out h)
theorem L.a0_ok : SoundFn L.pg 14 L.a0_S :=
 fn_ok (sem := L.a0_N) (ss := L.a0_ss) (G := L.a0_G) (run_ok L.Γ_a0_ok L.Δ_a0_ok Try.func14 (ann := (.node .leaf (.node .leaf (.node (.node .leaf (.lift L.a0_L1_d 27 L.a0_L1_F)) .leaf)))) ⟨(annOk_leaf _), ⟨(annOk_leaf _), ⟨⟨(annOk_leaf _), L.a0_L1_ok⟩, (annOk_leaf _)⟩⟩⟩) L.a0_imp
def L.Γ_b0 : Ctx := ctxC L.Γ_a0 14 L.a0_S
theorem L.Γ_b0_ok : SoundG L.pg L.Γ_b0 := ctxC_ok L.Γ_a0_ok L.a0_ok
def L.Δ_b0 : CtxO := L.Δ_a0
theorem L.Δ_b0_ok : SoundGO L.pg L.Δ_b0 := L.Δ_a0_ok
def L.b0_L1_b (l1 : (List Int)) (n1 i_ : Int) (self : Int -> Prop) (Kx0 : Prop) (Kr : Bool -> Prop) : Prop :=
 (bif (decide (i_ < (l1.length : Int))) then (inB i_ l1.length) /\ (bif ((l1.getD i_.toNat 0) == n1) then Kr true else self (i64 (i_ + 1))) else Kx0)
def L.b0_L1_R (l1 : (List Int)) (n1 : Int) : Nat -> Int -> (Prop) -> (Bool -> Prop) -> Prop
 | 0, _, _, _ => False
 | fu + 1, i_, Kx0, Kr => L.b0_L1_b l1 n1 i_ (fun i_ => L.b0_L1_R l1 n1 fu i_ Kx0 Kr) Kx0 Kr
structure L.b0_L1 (l1 : (List Int)) (n1 i_ : Int) (Kx0 : Prop) (Kr : Bool -> Prop) : Prop where
 out : ∃ fu, L.b0_L1_R l1 n1 fu i_ Kx0 Kr
def L.b0_L1_d : LoopD := { base := 0, vecs := [], flds := [], keep := [0, 1, 5], out := [], rets := [4], rv := [], rbase := 0 }
def L.b0_L1_ss : List Sh := [.ro (.int .i64), .int .i64, .int .i64]
def L.b0_L1_os : List OSh := []
def L.b0_L1_G (vs : List V) (st : List Ob) (K : Ex -> St) : Prop := L.b0_L1 (gR (.int .i64) (gA vs 0)) (gI (gA vs 1)) (gI (gA vs 2)) (K (.exit 0) (bld [] [] 0 18) []) (fun q0_ => K .ret (bld [4] [.x (.bool q0_)] 0 18) [])
def L.b0_L1_F (vs : List V) (st : List Ob) (K : Ex -> St) : Prop := fitF L.b0_L1_ss L.b0_L1_os vs st (L.b0_L1_G vs st K)
theorem L.b0_L1_eq (l1 : (List Int)) (n1 : Int) (K : Ex -> St) : ∀ (fu : Nat) (i_ : Int), L.b0_L1_R l1 n1 fu i_ (K (.exit 0) (bld [] [] 0 18) []) (fun q0_ => K .ret (bld [4] [.x (.bool q0_)] 0 18) []) = iterL (stepL (L.ex L.Γ_b0 L.Δ_b0 .leaf (sub [true, false, true, false, false] (codeOf Try.f13))) 0 L.b0_L1_d K) fu (bld L.b0_L1_d.keep [.ro (.int .i64) l1, .xi n1, .xi i_] 0 18) [] := by
 intro fu
 induction fu with
 | zero => intros; rfl
 | succ fu ih =>
  intro i_
  have e : (fun i_ => L.b0_L1_R l1 n1 fu i_ (K (.exit 0) (bld [] [] 0 18) []) (fun q0_ => K .ret (bld [4] [.x (.bool q0_)] 0 18) [])) = fun i_ => iterL (stepL (L.ex L.Γ_b0 L.Δ_b0 .leaf (sub [true, false, true, false, false] (codeOf Try.f13))) 0 L.b0_L1_d K) fu (bld L.b0_L1_d.keep [.ro (.int .i64) l1, .xi n1, .xi i_] 0 18) [] := by
   funext i_; exact ih i_
  show L.b0_L1_b l1 n1 i_ (fun i_ => L.b0_L1_R l1 n1 fu i_ (K (.exit 0) (bld [] [] 0 18) []) (fun q0_ => K .ret (bld [4] [.x (.bool q0_)] 0 18) [])) (K (.exit 0) (bld [] [] 0 18) []) (fun q0_ => K .ret (bld [4] [.x (.bool q0_)] 0 18) []) = _
  rw [e]
  kernel_rfl
theorem L.b0_L1_imp (vs : List V) (st : List Ob) (K : Ex -> St) (h : L.b0_L1_G vs st K) : ∃ fu, iterL (stepL (L.ex L.Γ_b0 L.Δ_b0 .leaf (sub [true, false, true, false, false] (codeOf Try.f13))) 0 L.b0_L1_d K) fu (bld L.b0_L1_d.keep (mkL L.b0_L1_ss 0 vs) 0 18) (mkOs L.b0_L1_os 0 st) :=
 exMap (fun fu h => @Eq.mp _ _ (Eq.trans (L.b0_L1_eq (gR (.int .i64) (gA vs 0)) (gI (gA vs 1)) K fu (gI (gA vs 2))) (by kernel_rfl)) h) (L.b0_L1.out h)
theorem L.b0_L1_ok : AnnOk L.pg (CC L.pg L.Γ_b0 L.Δ_b0) (drawD L.pg L.Γ_b0 L.Δ_b0) 0 (.lift L.b0_L1_d 18 L.b0_L1_F) (.loop (sub [true, false, true, false, false] (codeOf Try.f13))) :=
 lift_ok (an := .leaf) (ss := L.b0_L1_ss) (os := L.b0_L1_os) (G := L.b0_L1_G) rfl (Nat.le_of_ble_eq_true rfl) (annOk_leaf _) (L.b0_L1_imp)
def L.b0_B (l : (List Int)) (n : Int) (K : Bool -> Prop) : Prop :=
 L.b0_L1 l n 0 (K false) (fun r => K r)
structure L.b0 (l : (List Int)) (n : Int) (K : Bool -> Prop) : Prop where
 out : L.b0_B l n K
def L.b0_ss : List Sh := [.ro (.int .i64), .int .i64]
def L.b0_G (vs : List V) (K : V -> List Ob -> Prop) : Prop := L.b0 (gR (.int .i64) (gA vs 0)) (gI (gA vs 1)) (fun r0 => K (.x (.bool r0)) [])
def L.b0_S : SemF := fun args K => argF L.b0_ss args fun a => L.b0_G a K
noncomputable abbrev L.b0_N : SemF := run L.pg L.Γ_b0 L.Δ_b0 (.node .leaf (.node (.node .leaf (.lift L.b0_L1_d 18 L.b0_L1_F)) .leaf)) .any Try.f13
theorem L.b0_eq (l : (List Int)) (n : Int) (K : V -> List Ob -> Prop) : L.b0_N [.ro (.int .i64) l, .xi n] K = L.b0_B l n (fun r0 => K (.x (.bool r0)) []) := by
 kernel_rfl
theorem L.b0_imp (vs : List V) (K : V -> List Ob -> Prop) : Imp (L.b0_G vs K) (L.b0_N (mkL L.b0_ss 0 vs) K) :=
 Imp.of (Eq.trans (b := L.b0_N [.ro (.int .i64) (gR (.int .i64) (gA vs 0)), .xi (gI (gA vs 1))] K) (by kernel_rfl) (L.b0_eq (gR (.int .i64) (gA vs 0)) (gI (gA vs 1)) K)) fun h => (L.b0.out h)
theorem L.b0_ok : SoundFn L.pg 13 L.b0_S :=
 fn_ok (sem := L.b0_N) (ss := L.b0_ss) (G := L.b0_G) (run_ok L.Γ_b0_ok L.Δ_b0_ok Try.func13 (ann := (.node .leaf (.node (.node .leaf (.lift L.b0_L1_d 18 L.b0_L1_F)) .leaf))) ⟨(annOk_leaf _), ⟨⟨(annOk_leaf _), L.b0_L1_ok⟩, (annOk_leaf _)⟩⟩) L.b0_imp
def L.Γ_b1 : Ctx := ctxC L.Γ_b0 13 L.b0_S
theorem L.Γ_b1_ok : SoundG L.pg L.Γ_b1 := ctxC_ok L.Γ_b0_ok L.b0_ok
def L.Δ_b1 : CtxO := L.Δ_b0
theorem L.Δ_b1_ok : SoundGO L.pg L.Δ_b1 := L.Δ_b0_ok
def L.b1_L1_b (tasks1 : (List (List Int))) (sum i_ : Int) (self : Int -> Int -> Prop) (Kx0 : Int -> Prop) : Prop :=
 (bif (decide (i_ < (tasks1.length : Int))) then (inB i_ tasks1.length) /\ self (i64 (sum + (i64 (((tasks1.getD i_.toNat []).length : Int) + 1)))) (i64 (i_ + 1)) else Kx0 sum)
def L.b1_L1_R (tasks1 : (List (List Int))) : Nat -> Int -> Int -> (Int -> Prop) -> Prop
 | 0, _, _, _ => False
 | fu + 1, sum, i_, Kx0 => L.b1_L1_b tasks1 sum i_ (fun sum i_ => L.b1_L1_R tasks1 fu sum i_ Kx0) Kx0
structure L.b1_L1 (tasks1 : (List (List Int))) (sum i_ : Int) (Kx0 : Int -> Prop) : Prop where
 out : ∃ fu, L.b1_L1_R tasks1 fu sum i_ Kx0
def L.b1_L1_d : LoopD := { base := 2, vecs := [], flds := [], keep := [0, 3, 4, 6, 7], out := [0, 3, 4, 6], rets := [2], rv := [], rbase := 0 }
def L.b1_L1_ss : List Sh := [.ro L.ya, .vec 0, .int .i64, .int .i64, .int .i64]
def L.b1_L1_os : List OSh := [.vec (.int .i64) true, .cells [.int .i64, .int .i64]]
def L.b1_L1_G (vs : List V) (st : List Ob) (K : Ex -> St) : Prop := L.b1_L1 (gR L.ya (gA vs 0)) (gI (gA vs 3)) (gI (gA vs 4)) (fun q0_ => K (.exit 0) (bld [0, 3, 4, 6] [.ro L.ya (gR L.ya (gA vs 0)), .vec 0, .xi (gI (gA vs 2)), .xi q0_] 0 55) [.vec (.int .i64) 0 (oX (.int .i64) (gD st 0)), .cells [.xi (cI st 1 0), .xi (cI st 1 1)]])
def L.b1_L1_F (vs : List V) (st : List Ob) (K : Ex -> St) : Prop := fitF L.b1_L1_ss L.b1_L1_os vs st (L.b1_L1_G vs st K)
theorem L.b1_L1_eq (tasks1 : (List (List Int))) (end_ : Int) (w : (List Int)) (m1 m11 : Int) (K : Ex -> St) : ∀ (fu : Nat) (sum : Int) (i_ : Int), L.b1_L1_R tasks1 fu sum i_ (fun q0_ => K (.exit 0) (bld [0, 3, 4, 6] [.ro L.ya tasks1, .vec 0, .xi end_, .xi q0_] 0 55) [.vec (.int .i64) 0 w, .cells [.xi m1, .xi m11]]) = iterL (stepL (L.ex L.Γ_b1 L.Δ_b1 .leaf (sub [true, true, true, true, true, false, true, false, false] (codeOf Try.f5))) 2 L.b1_L1_d K) fu (bld L.b1_L1_d.keep [.ro L.ya tasks1, .vec 0, .xi end_, .xi sum, .xi i_] 0 55) [.vec (.int .i64) 0 w, .cells [.xi m1, .xi m11]] := by
 intro fu
 induction fu with
 | zero => intros; rfl
 | succ fu ih =>
  intro sum i_
  have e : (fun sum i_ => L.b1_L1_R tasks1 fu sum i_ (fun q0_ => K (.exit 0) (bld [0, 3, 4, 6] [.ro L.ya tasks1, .vec 0, .xi end_, .xi q0_] 0 55) [.vec (.int .i64) 0 w, .cells [.xi m1, .xi m11]])) = fun sum i_ => iterL (stepL (L.ex L.Γ_b1 L.Δ_b1 .leaf (sub [true, true, true, true, true, false, true, false, false] (codeOf Try.f5))) 2 L.b1_L1_d K) fu (bld L.b1_L1_d.keep [.ro L.ya tasks1, .vec 0, .xi end_, .xi sum, .xi i_] 0 55) [.vec (.int .i64) 0 w, .cells [.xi m1, .xi m11]] := by
   funext sum i_; exact ih sum i_
  show L.b1_L1_b tasks1 sum i_ (fun sum i_ => L.b1_L1_R tasks1 fu sum i_ (fun q0_ => K (.exit 0) (bld [0, 3, 4, 6] [.ro L.ya tasks1, .vec 0, .xi end_, .xi q0_] 0 55) [.vec (.int .i64) 0 w, .cells [.xi m1, .xi m11]])) (fun q0_ => K (.exit 0) (bld [0, 3, 4, 6] [.ro L.ya tasks1, .vec 0, .xi end_, .xi q0_] 0 55) [.vec (.int .i64) 0 w, .cells [.xi m1, .xi m11]]) = _
  rw [e]
  kernel_rfl
theorem L.b1_L1_imp (vs : List V) (st : List Ob) (K : Ex -> St) (h : L.b1_L1_G vs st K) : ∃ fu, iterL (stepL (L.ex L.Γ_b1 L.Δ_b1 .leaf (sub [true, true, true, true, true, false, true, false, false] (codeOf Try.f5))) 2 L.b1_L1_d K) fu (bld L.b1_L1_d.keep (mkL L.b1_L1_ss 0 vs) 0 55) (mkOs L.b1_L1_os 0 st) :=
 exMap (fun fu h => @Eq.mp _ _ (Eq.trans (L.b1_L1_eq (gR L.ya (gA vs 0)) (gI (gA vs 2)) (oX (.int .i64) (gD st 0)) (cI st 1 0) (cI st 1 1) K fu (gI (gA vs 3)) (gI (gA vs 4))) (by kernel_rfl)) h) (L.b1_L1.out h)
theorem L.b1_L1_ok : AnnOk L.pg (CC L.pg L.Γ_b1 L.Δ_b1) (drawD L.pg L.Γ_b1 L.Δ_b1) 0 (.lift L.b1_L1_d 55 L.b1_L1_F) (.loop (sub [true, true, true, true, true, false, true, false, false] (codeOf Try.f5))) :=
 lift_ok (an := .leaf) (ss := L.b1_L1_ss) (os := L.b1_L1_os) (G := L.b1_L1_G) rfl (Nat.le_of_ble_eq_true rfl) (annOk_leaf _) (L.b1_L1_imp)
def L.b1_B (tasks : (List (List Int))) (K : Bool -> Prop) : Prop :=
 L.a2 tasks 1 (fun r r1 rCode rIndex => L.b7 (fun r2 => (bif (!r2) then K false else (bif (rCode != 0) then K true else L.b1_L1 tasks 0 0 (fun sum => (bif ((r.length : Int) == (tasks.length : Int)) then L.a0 r 0 (fun r3 => L.b0 r3 0 (fun r4 => (bif (bif true then (!r4) else false) then L.a0 r 0 (fun r5 => K (bif (bif true then ((r5.length : Int) == 0) else false) then (r1 == sum) else false)) else K (bif false then (r1 == sum) else false)))) else K (bif false then (r1 == sum) else false)))))))
structure L.b1 (tasks : (List (List Int))) (K : Bool -> Prop) : Prop where
 out : L.b1_B tasks K
def L.b1_ss : List Sh := [.ro L.ya]
def L.b1_G (vs : List V) (K : V -> List Ob -> Prop) : Prop := L.b1 (gR L.ya (gA vs 0)) (fun r0 => K (.x (.bool r0)) [])
def L.b1_S : SemF := fun args K => argF L.b1_ss args fun a => L.b1_G a K
noncomputable abbrev L.b1_N : SemF := run L.pg L.Γ_b1 L.Δ_b1 (.node .leaf (.node .leaf (.node .leaf (.node .leaf (.node .leaf (.node (.node .leaf (.lift L.b1_L1_d 55 L.b1_L1_F)) .leaf)))))) .any Try.f5
theorem L.b1_eq (tasks : (List (List Int))) (K : V -> List Ob -> Prop) : L.b1_N [.ro L.ya tasks] K = L.b1_B tasks (fun r0 => K (.x (.bool r0)) []) := by
 kernel_rfl
theorem L.b1_imp (vs : List V) (K : V -> List Ob -> Prop) : Imp (L.b1_G vs K) (L.b1_N (mkL L.b1_ss 0 vs) K) :=
 Imp.of (Eq.trans (b := L.b1_N [.ro L.ya (gR L.ya (gA vs 0))] K) (by kernel_rfl) (L.b1_eq (gR L.ya (gA vs 0)) K)) fun h => (L.b1.out h)
theorem L.b1_ok : SoundFn L.pg 5 L.b1_S :=
 fn_ok (sem := L.b1_N) (ss := L.b1_ss) (G := L.b1_G) (run_ok L.Γ_b1_ok L.Δ_b1_ok Try.func5 (ann := (.node .leaf (.node .leaf (.node .leaf (.node .leaf (.node .leaf (.node (.node .leaf (.lift L.b1_L1_d 55 L.b1_L1_F)) .leaf))))))) ⟨(annOk_leaf _), ⟨(annOk_leaf _), ⟨(annOk_leaf _), ⟨(annOk_leaf _), ⟨(annOk_leaf _), ⟨⟨(annOk_leaf _), L.b1_L1_ok⟩, (annOk_leaf _)⟩⟩⟩⟩⟩⟩) L.b1_imp
end Go.Proofs.Ytmdkmlgafnjhmaa
namespace Go.Proofs.Ytmdkmlgafnjhmaa
open Eng
namespace Wt
theorem drop_cons {α : Type} {l : List α} {i : Nat} (d : α) (h : i < l.length) : l.drop i = l.getD i d :: l.drop (i + 1) := by
 rw [List.drop_eq_getElem_cons h, List.getD_eq_getElem?_getD, List.getElem?_eq_getElem h]; rfl
theorem getD_mem {α : Type} {l : List α} {i : Nat} (d : α) (h : i < l.length) : l.getD i d ∈ l := by
 rw [List.getD_eq_getElem?_getD, List.getElem?_eq_getElem h]; exact List.getElem_mem h
theorem fits_of {n : Nat} (h : n <= 1000) : fits n := by unfold fits; omega
def dg (a : Int) : Prop := 0 <= a /\ a < 2305843009213693951
def pr (a b : Int) : Int := (a * 1000003 + b * 31 + 7) % 2305843009213693951
theorem pr_dg (a b : Int) : dg (pr a b) := by unfold dg pr; omega
theorem bit1 (b : Nat) : (BitVec.ofInt 64 (b : Int) &&& BitVec.ofInt 64 1).toNat = b % 2 := by
 rw [BitVec.toNat_and]
 have h1 : (BitVec.ofInt 64 (1 : Int)).toNat = 1 := by decide
 rw [h1, Nat.and_one_is_mod]
 simp only [BitVec.ofInt_natCast, BitVec.toNat_ofNat]
 omega
theorem step1 {a out : Int} {b : Nat} (hb : b % 2 = 1) : ((out + a) % 2305843009213693951 + (2 * a % 2305843009213693951) * ((b / 2 : Nat) : Int)) % 2305843009213693951 = (out + a * b) % 2305843009213693951 := by
 have e : out + a * (b : Int) = (out + a) + 2 * a * ((b / 2 : Nat) : Int) := by
  have h : (b : Int) = 2 * ((b / 2 : Nat) : Int) + 1 := by omega
  generalize hk : ((b / 2 : Nat) : Int) = k at h ⊢
  rw [h, Int.mul_add, Int.mul_one, Int.mul_left_comm, Int.mul_assoc]; omega
 rw [e, Int.add_emod, Int.emod_emod, Int.mul_emod, Int.emod_emod, <- Int.mul_emod, <- Int.add_emod]
theorem step0 {a out : Int} {b : Nat} (hb : b % 2 = 0) : (out + (2 * a % 2305843009213693951) * ((b / 2 : Nat) : Int)) % 2305843009213693951 = (out + a * b) % 2305843009213693951 := by
 have e : out + a * (b : Int) = out + 2 * a * ((b / 2 : Nat) : Int) := by
  have h : (b : Int) = 2 * ((b / 2 : Nat) : Int) := by omega
  generalize hk : ((b / 2 : Nat) : Int) = k at h ⊢
  rw [h, Int.mul_left_comm, Int.mul_assoc]
 rw [e, Int.add_emod, Int.mul_emod, Int.emod_emod, <- Int.mul_emod, <- Int.add_emod]
theorem tmod_pos {a : Int} (h : 0 <= a) : a.tmod 2305843009213693951 = a % 2305843009213693951 := Int.tmod_eq_emod_of_nonneg h
theorem prod_loop {K : Int -> Prop} : ∀ (fu b : Nat) (a out : Int), b < 2 ^ fu -> fu <= 60 -> dg a -> dg out -> K ((out + a * b) % 2305843009213693951) -> L.a6_L1_R (fu + 1) a b out K
 | fu, b, a, out, hb, hf, ha, ho, hK => by
  have hlt : (2 : Nat) ^ fu <= 2 ^ 60 := Nat.pow_le_pow_right (by omega) hf
  have h60 : (2 : Nat) ^ 60 = 1152921504606846976 := by decide
  show L.a6_L1_b a b out _ _
  unfold L.a6_L1_b
  obtain ⟨ha1, ha2⟩ := ha
  obtain ⟨ho1, ho2⟩ := ho
  rcases Nat.eq_zero_or_pos b with rfl | hpos
  · refine cond_f (by simp) ?_
    have : (out + a * ((0 : Nat) : Int)) % 2305843009213693951 = out := by
     simp only [Int.natCast_zero, Int.mul_zero, Int.add_zero]; omega
    rw [this] at hK
    exact hK
  · refine cond_t (by simp; omega) ⟨by decide, ?_⟩
    obtain ⟨f, rfl⟩ : ∃ f, fu = f + 1 := by
     cases fu with
     | zero => omega
     | succ f => exact ⟨f, rfl⟩
    have hb2 : b / 2 < 2 ^ f := by rw [Nat.pow_succ] at hb; omega
    have e2 : i64 ((b : Int).tdiv 2) = ((b / 2 : Nat) : Int) := by
     have : (b : Int).tdiv 2 = ((b / 2 : Nat) : Int) := by rw [Int.tdiv_eq_ediv_of_nonneg (by omega)]; omega
     rw [this]
     exact i64_id (by omega) (by omega)
    have e1 : (b : Int).tmod 2 = ((b % 2 : Nat) : Int) := by rw [Int.tmod_eq_emod_of_nonneg (by omega)]; omega
    rw [e1, e2]
    rw [i64_id (n := (2 : Int) * a) (by omega) (by omega), tmod_pos (by omega)]
    have hda : dg (2 * a % 2305843009213693951) := by unfold dg; omega
    rcases Nat.mod_two_eq_zero_or_one b with h | h
    · rw [h]
      refine cond_f (by decide) ⟨by decide, by decide, ?_⟩
      refine prod_loop f (b / 2) _ out hb2 (by omega) hda ⟨ho1, ho2⟩ ?_
      rw [step0 h]; exact hK
    · rw [h]
      refine cond_t (by decide) ⟨by decide, by decide, by decide, ?_⟩
      rw [i64_id (n := out + a) (by omega) (by omega), tmod_pos (by omega)]
      refine prod_loop f (b / 2) _ _ hb2 (by omega) hda (by unfold dg; omega) ?_
      rw [step1 h]; exact hK
theorem prod_ok {a : Int} {b : Nat} (ha : dg a) (hb : b < 1048576) {K : Int -> Prop} (hK : K (a * b % 2305843009213693951)) : L.a6 a b K :=
 ⟨⟨⟨21, prod_loop 20 b a 0 hb (by omega) ha ⟨by omega, by omega⟩ (by rw [Int.zero_add]; exact hK)⟩⟩⟩
theorem refPair_ok {a b : Int} (ha : dg a) (hb : dg b) {K : Int -> Prop} (hK : K (pr a b)) : L.b8 a b K := by
 constructor
 unfold L.b8_B
 refine prod_ok (b := 1000003) ha (by omega) (prod_ok (b := 31) hb (by omega) ⟨by decide, ?_⟩)
 rw [i64_id (n := a * ((1000003 : Nat) : Int) % 2305843009213693951 + b * ((31 : Nat) : Int) % 2305843009213693951) (by omega) (by omega), i64_id (by omega) (by omega), tmod_pos (by omega)]
 have : (a * ((1000003 : Nat) : Int) % 2305843009213693951 + b * ((31 : Nat) : Int) % 2305843009213693951 + 7) % 2305843009213693951 = pr a b := by unfold pr; omega
 rw [this]; exact hK
open Wp in
theorem mulF_eq : ∀ (n b : Nat) (x a : Int), b < 2 ^ n -> b < 1152921504606846976 -> dg x -> dg a -> mulF n x b a = (a + x * b) % 2305843009213693951
 | 0, b, x, a, hb, _, hx, ha => by
  obtain rfl : b = 0 := by simpa using hb
  unfold dg at ha
  show a = (a + x * ((0 : Nat) : Int)) % 2305843009213693951
  simp only [Int.natCast_zero, Int.mul_zero, Int.add_zero]
  omega
 | n + 1, b, x, a, hb, hn, hx, ha => by
  obtain ⟨hx1, hx2⟩ := hx
  obtain ⟨ha1, ha2⟩ := ha
  unfold mulF
  rcases Nat.eq_zero_or_pos b with rfl | hpos
  · have : decide (((0 : Nat) : Int) > 0) = false := by simp
    rw [this]
    simp only [cond_false, Int.natCast_zero, Int.mul_zero, Int.add_zero]
    omega
  · have : decide ((b : Int) > 0) = true := by simp; omega
    rw [this]
    simp only [cond_true]
    have hb2 : b / 2 < 2 ^ n := by rw [Nat.pow_succ] at hb; omega
    have e2 : (b : Int).fdiv 2 = ((b / 2 : Nat) : Int) := by rw [Int.fdiv_eq_ediv_of_nonneg _ (by omega)]; omega
    have ex : mx2 x = 2 * x % 2305843009213693951 := by
     show (i64 (2 * x)).tmod 2305843009213693951 = _
     rw [i64_id (by omega) (by omega), tmod_pos (by omega)]
    have hda : dg (2 * x % 2305843009213693951) := by unfold dg; omega
    have eb : bits .and .i64 (b : Int) 1 = i64 (((b % 2 : Nat)) : Int) := by
     show IntKind.i64.wrap _ = IntKind.i64.wrap _
     congr 1
     have := bit1 b
     exact congrArg Int.ofNat this
    rw [e2, ex, eb]
    rcases Nat.mod_two_eq_zero_or_one b with h | h
    · rw [h]
      have : (i64 ((0 : Nat) : Int) == 1) = false := by decide
      rw [this]
      simp only [cond_false]
      rw [mulF_eq n (b / 2) _ a hb2 (by omega) hda ⟨ha1, ha2⟩, step0 h]
    · rw [h]
      have : (i64 ((1 : Nat) : Int) == 1) = true := by decide
      rw [this]
      simp only [cond_true]
      have ea : madd a x = (a + x) % 2305843009213693951 := by
       show (i64 (a + x)).tmod 2305843009213693951 = _
       rw [i64_id (by omega) (by omega), tmod_pos (by omega)]
      rw [ea, mulF_eq n (b / 2) _ _ hb2 (by omega) hda (by unfold dg; omega), step1 h]
open Wp in
theorem nextF_eq {a s : Int} {f : Nat} (ha : dg a) (hs : 0 <= s /\ s <= 2305843009213693951) (hf : f < 1048576) : nextF a s f = (a * f % 2305843009213693951 + s) % 2305843009213693951 := by
 unfold nextF
 rw [mulF_eq 64 f a 0 (Nat.lt_trans hf (by decide)) (by omega) ha ⟨by omega, by omega⟩, Int.zero_add]
 show (i64 (_ + s)).tmod 2305843009213693951 = _
 rw [i64_id (by omega) (by omega), tmod_pos (by omega)]
open Wp in
theorem pairF_eq {x y : Int} (hx : dg x) (hy : dg y) : pairF x y = pr x y := by
 unfold pairF
 have e1 : nextF y 7 31 = (y * ((31 : Nat) : Int) % 2305843009213693951 + 7) % 2305843009213693951 := nextF_eq (f := 31) hy (by omega) (by omega)
 rw [e1]
 have e2 := nextF_eq (a := x) (s := (y * ((31 : Nat) : Int) % 2305843009213693951 + 7) % 2305843009213693951) (f := 1000003) hx (by omega) (by omega)
 refine e2.trans ?_
 unfold pr
 omega
def fo (t : List Int) : Int := t.foldl pr 0
theorem foldl_alike {f g : Int -> Int -> Int} {p : Int -> Prop} (hfg : ∀ a x, p a -> p x -> f a x = g a x) (hg : ∀ a x, p (g a x)) : ∀ (t : List Int) (a : Int), p a -> (∀ z ∈ t, p z) -> t.foldl f a = t.foldl g a
 | [], _, _, _ => rfl
 | x :: t, a, ha, h => by
  rw [List.foldl_cons, List.foldl_cons, hfg a x ha (h x (by simp))]
  exact foldl_alike hfg hg t _ (hg a x) fun z hz => h z (by simp [hz])
theorem foldF_eq (t : List Int) (a : Int) (ha : dg a) (h : ∀ z ∈ t, dg z) : t.foldl Wp.pairF a = t.foldl pr a := foldl_alike (p := dg) (fun a x ha hx => pairF_eq ha hx) (fun a x => pr_dg a x) t a ha h
theorem R_eq {tasks : List (List Int)} {W : Int} (h : ∀ t ∈ tasks, ∀ z ∈ t, dg z) : Pl.R tasks W = tasks.map fo := by
 unfold Pl.R
 exact List.map_congr_left fun t ht => foldF_eq t 0 ⟨by omega, by omega⟩ (h t ht)
end Wt
end Go.Proofs.Ytmdkmlgafnjhmaa
set_option maxRecDepth 100000
namespace Go.Proofs.Ytmdkmlgafnjhmaa
open Eng
namespace Wt
theorem i64_succ {i : Nat} (h : i < 4611686018427387904) : i64 ((i : Int) + 1) = ((i + 1 : Nat) : Int) := by rw [i64_id (by omega) (by omega)]; rfl
theorem toNat_cast (i : Nat) : (i : Int).toNat = i := rfl
def fi (p : Int -> Bool) : List Int -> Nat -> Int
 | [], _ => -1
 | x :: l, i => if p x = true then (i : Int) else fi p l (i + 1)
theorem fi_any (p : Int -> Bool) : ∀ (l : List Int) (i : Nat), (decide (fi p l i ≥ 0)) = l.any p
 | [], i => rfl
 | x :: l, i => by
  unfold fi
  cases h : p x with
  | true => simp [h]
  | false => simp only [Bool.false_eq_true, if_false]; rw [fi_any p l (i + 1)]; simp [h]
def bad (n : Int) : Bool := decide (n < 0) || decide (n > 1000000000)
theorem ct1_ok {n : Int} {K : Bool -> Prop} (hK : K (bad n)) : L.b6 n K := by
 constructor
 unfold L.b6_B
 rw [bor]
 exact hK
theorem if2_loop {s : List Int} (hl : s.length < 1073741825) {K : Int -> Prop} : ∀ (fu i : Nat), i <= s.length -> s.length - i < fu -> K (fi bad (s.drop i) i) -> L.a8_L1_R s (s.length : Int) fu i (K (-1)) K
 | 0, i, _, h, _ => by omega
 | fu + 1, i, hi, h, hK => by
  show L.a8_L1_b s (s.length : Int) i _ _ _
  unfold L.a8_L1_b
  rcases Nat.lt_or_ge i s.length with g | g
  · rw [drop_cons (0 : Int) g] at hK
    unfold fi at hK
    refine cond_t (by simp; omega) ⟨inB_of (by omega) (by omega), ct1_ok ?_⟩
    rw [toNat_cast]
    cases e : bad (s.getD i 0) with
    | true => rw [e] at hK; exact hK
    | false =>
     rw [e] at hK
     simp only [cond_false]
     rw [i64_succ (by omega)]
     exact if2_loop hl fu (i + 1) (by omega) (by omega) (by simpa using hK)
  · rw [List.drop_eq_nil_of_le g] at hK
    exact cond_f (by simp; omega) hK
theorem cf_ok {s : List Int} (hl : s.length < 1073741825) {K : Bool -> Prop} (hK : K (s.any bad)) : L.b5 s K := by
 refine ⟨⟨⟨s.length + 1, if2_loop (K := fun r => K (decide (r ≥ 0))) hl _ 0 (by omega) (by omega) ?_⟩⟩⟩
 rw [fi_any]
 simpa using hK
theorem if3_loop {s : List Int} {c : Int} (hl : s.length < 1073741825) {K : Int -> Prop} : ∀ (fu i : Nat), i <= s.length -> s.length - i < fu -> K (fi (fun n => decide (n < c)) (s.drop i) i) -> L.a5_L1_R s c (s.length : Int) fu i (K (-1)) K
 | 0, i, _, h, _ => by omega
 | fu + 1, i, hi, h, hK => by
  show L.a5_L1_b s c (s.length : Int) i _ _ _
  unfold L.a5_L1_b
  rcases Nat.lt_or_ge i s.length with g | g
  · rw [drop_cons (0 : Int) g] at hK
    unfold fi at hK
    refine cond_t (by simp; omega) ⟨inB_of (by omega) (by omega), ⟨?_⟩⟩
    rw [toNat_cast]
    show bif decide (s.getD i 0 < c) then _ else _
    cases e : decide (s.getD i 0 < c) with
    | true => rw [e] at hK; exact hK
    | false =>
     rw [e] at hK
     simp only [cond_false]
     rw [i64_succ (by omega)]
     exact if3_loop hl fu (i + 1) (by omega) (by omega) (by simpa using hK)
  · rw [List.drop_eq_nil_of_le g] at hK
    exact cond_f (by simp; omega) hK
theorem if3_ok {s : List Int} {c : Int} (hl : s.length < 1073741825) {K : Int -> Prop} (hK : K (fi (fun n => decide (n < c)) s 0)) : L.a5 s c K :=
 ⟨⟨⟨s.length + 1, if3_loop hl _ 0 (by omega) (by omega) (by simpa using hK)⟩⟩⟩
def ck (t : List Int) : Int := if t.length > 40 then 2 else if t.any bad = true then 3 else 0
theorem ck_ok {t : List Int} {K : Int -> Prop} (hK : K (ck t)) : L.b2 t K := by
 constructor
 unfold L.b2_B
 unfold ck at hK
 by_cases h : t.length > 40
 · rw [if_pos h] at hK
   exact cond_t (by simp; omega) hK
 · rw [if_neg h] at hK
   refine cond_f (by simp; omega) (cf_ok (by omega) ?_)
   cases e : t.any bad with
   | true => rw [e] at hK; exact hK
   | false => rw [e] at hK; exact hK
def vl : List (List Int) -> Nat -> Int × Int
 | [], _ => (0, 0)
 | t :: ts, i => if ck t = 0 then vl ts (i + 1) else (ck t, (i : Int))
def val (tasks : List (List Int)) (W : Int) : Int × Int := if W < 1 \/ W > 8 then (3, -2) else if tasks.length > 24 then (2, -1) else vl tasks 0
theorem vl_loop {ts : List (List Int)} (hl : ts.length <= 24) {K : Int -> Int -> Prop} : ∀ (fu i : Nat), i <= ts.length -> ts.length - i < fu -> K (vl (ts.drop i) i).1 (vl (ts.drop i) i).2 -> L.a1_L1_R ts (ts.length : Int) fu i (K 0 0) K
 | 0, i, _, h, _ => by omega
 | fu + 1, i, hi, h, hK => by
  show L.a1_L1_b ts (ts.length : Int) i _ _ _
  unfold L.a1_L1_b
  rcases Nat.lt_or_ge i ts.length with g | g
  · rw [drop_cons ([] : List Int) g] at hK
    unfold vl at hK
    refine cond_t (by simp; omega) ⟨inB_of (by omega) (by omega), ck_ok ?_⟩
    rw [toNat_cast]
    by_cases e : ck (ts.getD i []) = 0
    · rw [if_pos e] at hK
      refine cond_f (by rw [e]; rfl) ?_
      rw [i64_succ (by omega)]
      exact vl_loop hl fu (i + 1) (by omega) (by omega) hK
    · rw [if_neg e] at hK
      exact cond_t (by simpa using e) hK
  · rw [List.drop_eq_nil_of_le g] at hK
    exact cond_f (by simp; omega) hK
theorem val_ok {ts : List (List Int)} {W : Int} {K : Int -> Int -> Prop} (hK : K (val ts W).1 (val ts W).2) : L.a1 ts W K := by
 constructor
 unfold L.a1_B
 rw [bor]
 unfold val at hK
 by_cases h : W < 1 \/ W > 8
 · rw [if_pos h] at hK
   exact cond_t (by simpa using h) hK
 · rw [if_neg h] at hK
   refine cond_f (by simpa using h) ?_
   by_cases h2 : ts.length > 24
   · rw [if_pos h2] at hK
     exact cond_t (by simp; omega) hK
   · rw [if_neg h2] at hK
     exact cond_f (by simp; omega) ⟨⟨ts.length + 1, vl_loop (by omega) _ 0 (by omega) (by omega) (by simpa using hK)⟩⟩
theorem ck_nought {t : List Int} (h : ck t = 0) : t.length <= 40 /\ ∀ z ∈ t, 0 <= z /\ z <= 1000000000 := by
 unfold ck at h
 split at h
 · omega
 · split at h
   · omega
   · next h1 h2 =>
     refine ⟨by omega, fun z hz => ?_⟩
     have : bad z = false := by
      cases hb : bad z with
      | false => rfl
      | true => exact absurd (List.any_eq_true.2 ⟨z, hz, hb⟩) h2
     simp [bad] at this
     omega
theorem vl_nought : ∀ (ts : List (List Int)) (i : Nat), (vl ts i).1 = 0 -> vl ts i = (0, 0) /\ ∀ t ∈ ts, ck t = 0
 | [], i, _ => ⟨rfl, fun t ht => by simp at ht⟩
 | t :: ts, i, h => by
  unfold vl at h ⊢
  by_cases e : ck t = 0
  · rw [if_pos e] at h ⊢
    obtain ⟨h1, h2⟩ := vl_nought ts (i + 1) h
    exact ⟨h1, fun u hu => by rcases List.mem_cons.1 hu with rfl | hu; exact e; exact h2 u hu⟩
  · rw [if_neg e] at h
    exact absurd h e
structure Fine (ts : List (List Int)) (W : Int) : Prop where
 w1 : 1 <= W
 w8 : W <= 8
 len : ts.length <= 24
 ok : ∀ t ∈ ts, t.length <= 40 /\ ∀ z ∈ t, 0 <= z /\ z <= 1000000000
theorem val_nought {ts : List (List Int)} {W : Int} (h : (val ts W).1 = 0) : val ts W = (0, 0) /\ Fine ts W := by
 unfold val at h ⊢
 by_cases h1 : W < 1 \/ W > 8
 · rw [if_pos h1] at h; cases h
 · rw [if_neg h1] at h ⊢
   by_cases h2 : ts.length > 24
   · rw [if_pos h2] at h; cases h
   · rw [if_neg h2] at h ⊢
     obtain ⟨h3, h4⟩ := vl_nought ts 0 h
     exact ⟨h3, by omega, by omega, by omega, fun t ht => ck_nought (h4 t ht)⟩
theorem Fine.dg {ts : List (List Int)} {W : Int} (h : Fine ts W) : ∀ t ∈ ts, ∀ z ∈ t, Wt.dg z := fun t ht z hz => by
 have := (h.ok t ht).2 z hz
 unfold Wt.dg
 omega
theorem Fine.C {ts : List (List Int)} {W : Int} (h : Fine ts W) : Pl.C ts W := ⟨h.w1, h.w8, h.len, fun t ht => ⟨by have := (h.ok t ht).1; omega, fun z hz => by
 have := h.dg t ht z hz
 exact ⟨this.1, this.2⟩⟩⟩
theorem flt {a b : Int} : ((a == 0) && ((b == 0) && true)) = decide ((a, b) = (0, 0)) := by
 by_cases h1 : a = 0 <;> by_cases h2 : b = 0 <;> simp [h1, h2]
def fine (ts : List (List Int)) (W : Int) : Bool := decide (val ts W = (0, 0))
theorem fine_iff {ts : List (List Int)} {W : Int} : fine ts W = true ↔ (val ts W).1 = 0 := by
 unfold fine
 rw [decide_eq_true_eq]
 exact ⟨fun h => by rw [h], fun h => (val_nought h).1⟩
theorem fine_flt {ts : List (List Int)} {W : Int} : (((val ts W).1 == 0) && (((val ts W).2 == 0) && true)) = fine ts W := flt
def res (ts : List (List Int)) (W : Int) : List Int := if fine ts W = true then ts.map fo else []
theorem res_ok {ts : List (List Int)} {W : Int} {K : List Int -> Int -> Int -> Prop} (hK : K (res ts W) (val ts W).1 (val ts W).2) : L.b4 ts W K := by
 constructor
 unfold L.b4_B
 refine val_ok ?_
 rw [fine_flt]
 unfold res at hK
 cases e : fine ts W with
 | false =>
  rw [e] at hK
  exact cond_t rfl hK
 | true =>
  rw [e, if_pos rfl] at hK
  obtain ⟨h1, h2⟩ := val_nought (fine_iff.1 e)
  rw [h1] at hK
  refine cond_f rfl ⟨h2.C, ?_⟩
  rw [R_eq h2.dg]
  exact hK
theorem res_len (ts : List (List Int)) (W : Int) : (res ts W).length <= 24 := by
 unfold res
 split
 · next h => have := (val_nought (fine_iff.1 h)).2.len; simpa using this
 · simp
def fst (ts : List (List Int)) (W limit : Int) : Int × Int × Int := if fine ts W = true then (if limit < 0 \/ limit > 2305843009213693951 then (0, 3, -3) else
  (if fi (fun n => decide (n < limit)) (res ts W) 0 < 0 then (0, 6, -4) else (fi (fun n => decide (n < limit)) (res ts W) 0, 0, 0))) else (0, val ts W)
theorem fst_ok {ts : List (List Int)} {W limit : Int} {K : Int -> Int -> Int -> Prop} (hK : K (fst ts W limit).1 (fst ts W limit).2.1 (fst ts W limit).2.2) : L.b3 ts W limit K := by
 constructor
 unfold L.b3_B
 refine res_ok ?_
 rw [fine_flt, bor]
 unfold fst at hK
 cases e : fine ts W with
 | false => rw [e] at hK; exact cond_t rfl hK
 | true =>
  rw [e, if_pos rfl] at hK
  refine cond_f rfl ?_
  by_cases h : limit < 0 \/ limit > 2305843009213693951
  · rw [if_pos h] at hK
    exact cond_t (by simpa using h) hK
  · rw [if_neg h] at hK
    refine cond_f (by simpa using h) (if3_ok (by have := res_len ts W; omega) ?_)
    by_cases h2 : fi (fun n => decide (n < limit)) (res ts W) 0 < 0
    · rw [if_pos h2] at hK
      exact cond_t (by simpa using h2) hK
    · rw [if_neg h2] at hK
      exact cond_f (by simpa using h2) hK
theorem Equal_loop {a b : List Int} (hl : a.length < 1073741825) (he : a.length = b.length) {K : Bool -> Prop} : ∀ (fu i : Nat), i <= a.length -> a.length - i < fu -> K (decide (a.drop i = b.drop i)) -> L.a3_L1_R a b fu i (K true) K
 | 0, i, _, h, _ => by omega
 | fu + 1, i, hi, h, hK => by
  show L.a3_L1_b a b i _ _ _
  unfold L.a3_L1_b
  rcases Nat.lt_or_ge i a.length with g | g
  · rw [drop_cons (0 : Int) g, drop_cons (0 : Int) (l := b) (by omega)] at hK
    refine cond_t (by simp; omega) ⟨inB_of (by omega) (by omega), inB_of (by omega) (by omega), ?_⟩
    rw [toNat_cast]
    by_cases h1 : a.getD i 0 = b.getD i 0
    · refine cond_f (by rw [h1]; simp) ?_
      rw [i64_succ (by omega)]
      refine Equal_loop hl he fu (i + 1) (by omega) (by omega) ?_
      rw [h1] at hK
      simpa using hK
    · refine cond_t (by simpa using h1) ?_
      have : decide (a.getD i 0 :: a.drop (i + 1) = b.getD i 0 :: b.drop (i + 1)) = false := by simp; intro h2; exact absurd h2 h1
      rw [this] at hK; exact hK
  · rw [List.drop_eq_nil_of_le g, List.drop_eq_nil_of_le (by omega)] at hK
    exact cond_f (by simp; omega) (by simpa using hK)
theorem Equal_ok {a b : List Int} (hl : a.length < 1073741825) {K : Bool -> Prop} (hK : K (decide (a = b))) : L.a3 a b K := by
 constructor
 unfold L.a3_B
 by_cases h : a.length = b.length
 · refine cond_f (by simp; omega) ⟨⟨a.length + 1, Equal_loop hl h _ 0 (by omega) (by omega) ?_⟩⟩
   simpa using hK
 · refine cond_t (by simp; omega) ?_
   have : decide (a = b) = false := by simp; intro e; exact h (by rw [e])
   rw [this] at hK; exact hK
end Wt
end Go.Proofs.Ytmdkmlgafnjhmaa
set_option maxRecDepth 100000
namespace Go.Proofs.Ytmdkmlgafnjhmaa
open Eng
namespace Wt
def mn (x : List Int) : Int := (x.drop 1).foldl amn (x.getD 0 0)
def mx (x : List Int) : Int := (x.drop 1).foldl amx (x.getD 0 0)
theorem amn_fold : ∀ (l : List Int) (a : Int), l.foldl amn a <= a /\ (∀ y ∈ l, l.foldl amn a <= y) /\ (l.foldl amn a = a \/ l.foldl amn a ∈ l)
 | [], a => ⟨Int.le_refl _, fun y hy => by simp at hy, .inl rfl⟩
 | x :: l, a => by
  obtain ⟨h1, h2, h3⟩ := amn_fold l (amn a x)
  simp only [List.foldl_cons]
  have hle : amn a x <= a /\ amn a x <= x /\ (amn a x = a \/ amn a x = x) := by unfold amn; split <;> omega
  refine ⟨by omega, fun y hy => ?_, ?_⟩
  · rcases List.mem_cons.1 hy with rfl | hy
    · omega
    · exact h2 y hy
  · rcases h3 with h3 | h3
    · rcases hle.2.2 with e | e
      · exact .inl (h3.trans e)
      · exact .inr (List.mem_cons.2 (.inl (h3.trans e)))
    · exact .inr (List.mem_cons_of_mem _ h3)
theorem amx_fold : ∀ (l : List Int) (a : Int), a <= l.foldl amx a /\ (∀ y ∈ l, y <= l.foldl amx a) /\ (l.foldl amx a = a \/ l.foldl amx a ∈ l)
 | [], a => ⟨Int.le_refl _, fun y hy => by simp at hy, .inl rfl⟩
 | x :: l, a => by
  obtain ⟨h1, h2, h3⟩ := amx_fold l (amx a x)
  simp only [List.foldl_cons]
  have hle : a <= amx a x /\ x <= amx a x /\ (amx a x = a \/ amx a x = x) := by unfold amx; split <;> omega
  refine ⟨by omega, fun y hy => ?_, ?_⟩
  · rcases List.mem_cons.1 hy with rfl | hy
    · omega
    · exact h2 y hy
  · rcases h3 with h3 | h3
    · rcases hle.2.2 with e | e
      · exact .inl (h3.trans e)
      · exact .inr (List.mem_cons.2 (.inl (h3.trans e)))
    · exact .inr (List.mem_cons_of_mem _ h3)
theorem mn_spec {x : List Int} (h : x ≠ []) : mn x ∈ x /\ ∀ y ∈ x, mn x <= y := by
 cases x with
 | nil => exact absurd rfl h
 | cons a l =>
  obtain ⟨h1, h2, h3⟩ := amn_fold l a
  refine ⟨?_, fun y hy => ?_⟩
  · rcases h3 with h3 | h3
    · exact List.mem_cons.2 (.inl h3)
    · exact List.mem_cons.2 (.inr h3)
  · rcases List.mem_cons.1 hy with rfl | hy
    · exact h1
    · exact h2 y hy
theorem mx_spec {x : List Int} (h : x ≠ []) : mx x ∈ x /\ ∀ y ∈ x, y <= mx x := by
 cases x with
 | nil => exact absurd rfl h
 | cons a l =>
  obtain ⟨h1, h2, h3⟩ := amx_fold l a
  refine ⟨?_, fun y hy => ?_⟩
  · rcases h3 with h3 | h3
    · exact List.mem_cons.2 (.inl h3)
    · exact List.mem_cons.2 (.inr h3)
  · rcases List.mem_cons.1 hy with rfl | hy
    · exact h1
    · exact h2 y hy
theorem mn_loop {x : List Int} (hl : x.length < 1073741825) {K : Int -> Prop} : ∀ (fu i : Nat) (m : Int), i <= x.length -> x.length - i < fu -> K ((x.drop i).foldl amn m) -> L.a7_L1_R x fu m i K
 | 0, i, m, _, h, _ => by omega
 | fu + 1, i, m, hi, h, hK => by
  show L.a7_L1_b x m i _ _
  unfold L.a7_L1_b
  rcases Nat.lt_or_ge i x.length with g | g
  · rw [drop_cons (0 : Int) g] at hK
    refine cond_t (by simp; omega) ⟨inB_of (by omega) (by omega), ?_⟩
    rw [toNat_cast, i64_succ (by omega)]
    exact mn_loop hl fu (i + 1) _ (by omega) (by omega) hK
  · rw [List.drop_eq_nil_of_le g] at hK
    exact cond_f (by simp; omega) hK
theorem mn_ok {x : List Int} (h1 : 1 <= x.length) (hl : x.length < 1073741825) {K : Int -> Prop} (hK : K (mn x)) : L.a7 x K := by
 constructor
 unfold L.a7_B
 exact cond_f (by simp; omega) ⟨inB_of (by omega) (by omega), ⟨⟨x.length + 1, mn_loop hl _ 1 _ h1 (by omega) hK⟩⟩⟩
theorem mx_loop {x : List Int} (hl : x.length < 1073741825) {K : Int -> Prop} : ∀ (fu i : Nat) (m : Int), i <= x.length -> x.length - i < fu -> K ((x.drop i).foldl amx m) -> L.a4_L1_R x fu m i K
 | 0, i, m, _, h, _ => by omega
 | fu + 1, i, m, hi, h, hK => by
  show L.a4_L1_b x m i _ _
  unfold L.a4_L1_b
  rcases Nat.lt_or_ge i x.length with g | g
  · rw [drop_cons (0 : Int) g] at hK
    refine cond_t (by simp; omega) ⟨inB_of (by omega) (by omega), ?_⟩
    rw [toNat_cast, i64_succ (by omega)]
    exact mx_loop hl fu (i + 1) _ (by omega) (by omega) hK
  · rw [List.drop_eq_nil_of_le g] at hK
    exact cond_f (by simp; omega) hK
theorem mx_ok {x : List Int} (h1 : 1 <= x.length) (hl : x.length < 1073741825) {K : Int -> Prop} (hK : K (mx x)) : L.a4 x K := by
 constructor
 unfold L.a4_B
 exact cond_f (by simp; omega) ⟨inB_of (by omega) (by omega), ⟨⟨x.length + 1, mx_loop hl _ 1 _ h1 (by omega) hK⟩⟩⟩
def pos (c : Int) (l : List Int) : Int := fi (fun n => c == n) l 0
theorem pos_loop {s : List Int} {c : Int} (hl : s.length < 1073741825) {K : Int -> Prop} : ∀ (fu i : Nat), i <= s.length -> s.length - i < fu -> K (fi (fun n => c == n) (s.drop i) i) -> L.a9_L1_R s c (s.length : Int) fu i (K (-1)) K
 | 0, i, _, h, _ => by omega
 | fu + 1, i, hi, h, hK => by
  show L.a9_L1_b s c (s.length : Int) i _ _ _
  unfold L.a9_L1_b
  rcases Nat.lt_or_ge i s.length with g | g
  · rw [drop_cons (0 : Int) g] at hK
    unfold fi at hK
    refine cond_t (by simp; omega) ⟨inB_of (by omega) (by omega), ?_⟩
    rw [toNat_cast]
    cases e : (c == s.getD i 0) with
    | true => rw [e] at hK; exact hK
    | false =>
     rw [e] at hK
     simp only [cond_false]
     rw [i64_succ (by omega)]
     exact pos_loop hl fu (i + 1) (by omega) (by omega) (by simpa using hK)
  · rw [List.drop_eq_nil_of_le g] at hK
    exact cond_f (by simp; omega) hK
theorem pos_ok {s : List Int} {c : Int} (hl : s.length < 1073741825) {K : Int -> Prop} (hK : K (pos c s)) : L.a9 s c K :=
 ⟨⟨⟨s.length + 1, pos_loop hl _ 0 (by omega) (by omega) (by rw [List.drop_zero]; exact hK)⟩⟩⟩
theorem fi_spec (p : Int -> Bool) : ∀ (l : List Int) (i : Nat), (∃ y ∈ l, p y = true) -> ∃ j, j < l.length /\ fi p l i = ((i + j : Nat) : Int) /\ p (l.getD j 0) = true /\ ∀ j', j' < j -> p (l.getD j' 0) = false
 | [], i, ⟨y, hy, _⟩ => by simp at hy
 | x :: l, i, ⟨y, hy, hp⟩ => by
  unfold fi
  cases e : p x with
  | true => exact ⟨0, by simp, by simp, e, fun j' h => by omega⟩
  | false =>
   have : ∃ y ∈ l, p y = true := by
    rcases List.mem_cons.1 hy with rfl | hy
    · rw [e] at hp; cases hp
    · exact ⟨y, hy, hp⟩
   obtain ⟨j, h1, h2, h3, h4⟩ := fi_spec p l (i + 1) this
   refine ⟨j + 1, by simp; omega, ?_, h3, fun j' hj => ?_⟩
   · simp only [Bool.false_eq_true, if_false]
     rw [h2]
     congr 1
     omega
   · cases j' with
     | zero => exact e
     | succ j' => exact h4 j' (by omega)
def lst (x : List Int) : Nat := (pos (mn x) x).toNat
theorem lst_spec {x : List Int} (h : x ≠ []) : lst x < x.length /\ pos (mn x) x = ((lst x : Nat) : Int) /\ x.getD (lst x) 0 = mn x /\ ∀ j, j < lst x -> x.getD j 0 ≠ mn x := by
 obtain ⟨j, h1, h2, h3, h4⟩ := fi_spec (fun n => mn x == n) x 0 ⟨mn x, (mn_spec h).1, by simp⟩
 have e : pos (mn x) x = (j : Int) := by unfold pos; rw [h2]; congr 1; omega
 have el : lst x = j := by unfold lst; rw [e]; rfl
 rw [el]
 exact ⟨h1, e, (by simpa using h3 : mn x = x.getD j 0).symm, fun j' hj he => by have := h4 j' hj; rw [he] at this; simp at this⟩
def stp (p : Int) (s : List Int × List Int) : List Int × List Int := (s.1.set (lst s.1) (s.1.getD (lst s.1) 0 + p), s.2 ++ [((lst s.1 : Nat) : Int)])
def wt (t : List Int) : Int := (t.length : Int) + 1
def sched (ts : List (List Int)) (s : List Int × List Int) : List Int × List Int := ts.foldl (fun s t => stp (wt t) s) s
structure TInv (W i : Nat) (s : List Int × List Int) : Prop where
 len : s.1.length = W
 bnd : ∀ x ∈ s.1, 0 <= x /\ x <= 41 * (i : Int)
 out : s.2.length = i
theorem mem_set {l : List Int} {j : Nat} {v x : Int} (h : x ∈ l.set j v) : x ∈ l \/ x = v := by
 rcases List.mem_or_eq_of_mem_set h with h | h
 · exact .inl h
 · exact .inr h
theorem TInv.step {W i : Nat} {s : List Int × List Int} {t : List Int} (h : TInv W i s) (hW : 1 <= W) (ht : t.length <= 40) : TInv W (i + 1) (stp (wt t) s) := by
 have hne : s.1 ≠ [] := fun e => by have := h.len; rw [e] at this; simp at this; omega
 obtain ⟨h1, h2, h3, h4⟩ := lst_spec hne
 have hm := h.bnd _ (mn_spec hne).1
 refine ⟨by simp [stp, h.len], fun x hx => ?_, by simp [stp, h.out]⟩
 rcases mem_set hx with hx | hx
 · have := h.bnd x hx; omega
 · rw [h3] at hx
   unfold wt at hx
   omega
theorem as_loop {ts : List (List Int)} {W : Nat} (hW : 1 <= W) (hW8 : W <= 8) (hl : ts.length <= 24) (ht : ∀ t ∈ ts, t.length <= 40) {K : List Int -> List Int -> Prop} : ∀ (fu i : Nat) (s : List Int × List Int), i <= ts.length -> ts.length - i < fu -> TInv W i s ->
  K (sched (ts.drop i) s).1 (sched (ts.drop i) s).2 -> L.a2_L1_R ts (ts.length : Int) fu i s.1 s.2 K
 | 0, i, s, _, h, _, _ => by omega
 | fu + 1, i, s, hi, h, hT, hK => by
  show L.a2_L1_b ts (ts.length : Int) i s.1 s.2 _ _
  unfold L.a2_L1_b
  rcases Nat.lt_or_ge i ts.length with g | g
  · rw [drop_cons ([] : List Int) g] at hK
    have hne : s.1 ≠ [] := fun e => by have := hT.len; rw [e] at this; simp at this; omega
    have hlen := hT.len
    obtain ⟨h1, h2, h3, h4⟩ := lst_spec hne
    have htl := ht _ (getD_mem ([] : List Int) g)
    have hm := hT.bnd _ (mn_spec hne).1
    refine cond_t (by simp; omega) ⟨inB_of (by omega) (by omega), mn_ok (by omega) (by omega) (pos_ok (by omega) ?_)⟩
    rw [h2]
    refine ⟨inB_of (by omega) (by omega), inB_of (by omega) (by omega), fits_of (by have := hT.out; simp; omega), ?_⟩
    rw [toNat_cast, toNat_cast, i64_succ (by omega), i64_id (n := ((ts.getD i []).length : Int) + 1) (by omega) (by omega), h3, i64_id (by omega) (by omega)]
    have := as_loop hW hW8 hl ht (K := K) fu (i + 1) (stp (wt (ts.getD i [])) s) (by omega) (by omega) (hT.step hW htl) hK
    unfold stp at this
    rw [h3] at this
    exact this
  · rw [List.drop_eq_nil_of_le g] at hK
    exact cond_f (by simp; omega) hK
def asg (ts : List (List Int)) (W : Int) : List Int × List Int := sched ts (List.replicate W.toNat 0, [])
theorem sched_T {W : Nat} (hW : 1 <= W) : ∀ (ts : List (List Int)) (i : Nat) (s : List Int × List Int), (∀ t ∈ ts, t.length <= 40) -> TInv W i s -> TInv W (i + ts.length) (sched ts s)
 | [], i, s, _, h => h
 | t :: ts, i, s, ht, h => by
  have := sched_T hW ts (i + 1) _ (fun u hu => ht u (by simp [hu])) (h.step hW (ht t (by simp)))
  rw [List.length_cons, show i + (ts.length + 1) = i + 1 + ts.length by omega]
  exact this
theorem start_T (W : Nat) : TInv W 0 (List.replicate W 0, []) := ⟨by simp, fun x hx => by rw [(List.mem_replicate.1 hx).2]; simp, rfl⟩
def asn (ts : List (List Int)) (W : Int) : List Int × Int := if fine ts W = true then ((asg ts W).2, mx (asg ts W).1) else ([], 0)
theorem asn_ok {ts : List (List Int)} {W : Int} {K : List Int -> Int -> Int -> Int -> Prop} (hK : K (asn ts W).1 (asn ts W).2 (val ts W).1 (val ts W).2) : L.a2 ts W K := by
 constructor
 unfold L.a2_B
 refine val_ok ?_
 rw [fine_flt]
 unfold asn at hK
 cases e : fine ts W with
 | false => rw [e] at hK; exact cond_t rfl hK
 | true =>
  rw [e, if_pos rfl] at hK
  obtain ⟨h1, h2⟩ := val_nought (fine_iff.1 e)
  rw [h1] at hK
  have w1 := h2.w1
  have w8 := h2.w8
  refine cond_f rfl ⟨⟨by omega, by omega, by omega⟩, ?_⟩
  have hT := sched_T (W := W.toNat) (by omega) ts 0 _ (fun t ht => (h2.ok t ht).1) (start_T W.toNat)
  refine ⟨⟨ts.length + 1, as_loop (W := W.toNat) (K := fun times out => L.a4 times fun r => K out r 0 0) (by omega) (by omega) h2.len (fun t ht => (h2.ok t ht).1) (ts.length + 1) 0 (List.replicate W.toNat 0, []) (by omega) (by omega) (start_T _) ?_⟩⟩
  rw [List.drop_zero]
  have hl := hT.len
  exact mx_ok (by show 1 <= (asg ts W).1.length; unfold asg; omega) (by unfold asg at *; omega) hK
theorem ex_ok {K : Bool -> Prop} (hK : K true) : L.b7 K := by
 constructor
 unfold L.b7_B
 refine res_ok (fst_ok (asn_ok ?_))
 have e1 : res [[], [5]] 2 = [0, 162] := by decide +kernel
 have e2 : fst [[5], []] 2 1 = (1, 0, 0) := by decide +kernel
 have e3 : asn [[], [], []] 2 = ([0, 1, 0], 2) := by decide +kernel
 have e4 : val [[], [5]] 2 = (0, 0) := by decide +kernel
 have e5 : val [[], [], []] 2 = (0, 0) := by decide +kernel
 rw [e1, e2, e3, e4, e5]
 refine ⟨fun _ => inB_of (by decide) (by decide), fun _ => inB_of (by decide) (by decide), ?_⟩
 refine cond_t (by decide) (refPair_ok ⟨by omega, by omega⟩ ⟨by omega, by omega⟩ ?_)
 have e6 : pr 0 5 = 162 := by decide +kernel
 rw [e6]
 refine cond_t (by decide) (Equal_ok (by decide) ?_)
 exact hK
end Wt
end Go.Proofs.Ytmdkmlgafnjhmaa
set_option maxRecDepth 100000
namespace Go.Proofs.Ytmdkmlgafnjhmaa
open Eng
namespace Wt
theorem sum_low {m : Int} : ∀ (l : List Int), (∀ x ∈ l, m <= x) -> (l.length : Int) * m <= l.sum
 | [], _ => by simp
 | x :: l, h => by
  have h1 := sum_low l fun y hy => h y (by simp [hy])
  have h2 := h x (by simp)
  rw [List.sum_cons, List.length_cons, Int.natCast_add, Int.add_mul]
  omega
theorem sum_high {m : Int} : ∀ (l : List Int), (∀ x ∈ l, x <= m) -> l.sum <= (l.length : Int) * m
 | [], _ => by simp
 | x :: l, h => by
  have h1 := sum_high l fun y hy => h y (by simp [hy])
  have h2 := h x (by simp)
  rw [List.sum_cons, List.length_cons, Int.natCast_add, Int.add_mul]
  omega
theorem sum_set : ∀ (l : List Int) (j : Nat) (v : Int), j < l.length -> (l.set j v).sum = l.sum - l.getD j 0 + v
 | x :: l, 0, v, _ => by simp only [List.set_cons_zero, List.sum_cons, List.getD_cons_zero]; omega
 | x :: l, j + 1, v, h => by
  simp only [List.set_cons_succ, List.sum_cons, List.getD_cons_succ]
  rw [sum_set l j v (by simpa using h)]
  omega
structure Gr (W : Nat) (S L : Int) (s : List Int × List Int) : Prop where
 len : s.1.length = W
 nn : ∀ x ∈ s.1, 0 <= x
 up : ∀ x ∈ s.1, (W : Int) * x <= S + ((W : Int) - 1) * L
 sum : s.1.sum = S
 top : ∃ x ∈ s.1, L <= x
 out : ∀ b ∈ s.2, 0 <= b /\ b < (W : Int)
theorem Gr.step {W : Nat} {S L p : Int} {s : List Int × List Int} (h : Gr W S L s) (hW : 1 <= W) (hp : 0 <= p) : Gr W (S + p) (amx L p) (stp p s) := by
 have hne : s.1 ≠ [] := fun e => by have := h.len; rw [e] at this; simp at this; omega
 obtain ⟨h1, h2, h3, h4⟩ := lst_spec hne
 have hmm := mn_spec hne
 have hm0 := h.nn _ hmm.1
 have hL : L <= amx L p /\ p <= amx L p /\ (amx L p = L \/ amx L p = p) := by unfold amx; split <;> omega
 have hw0 : (0 : Int) <= (W : Int) - 1 := by omega
 have a1 : ((W : Int) - 1) * L <= ((W : Int) - 1) * amx L p := Int.mul_le_mul_of_nonneg_left hL.1 hw0
 have a2 : ((W : Int) - 1) * p <= ((W : Int) - 1) * amx L p := Int.mul_le_mul_of_nonneg_left hL.2.1 hw0
 have hlow : (W : Int) * mn s.1 <= S := by
  have := sum_low s.1 hmm.2
  rw [h.len, h.sum] at this
  exact this
 refine ⟨by simp [stp, h.len], fun x hx => ?_, fun x hx => ?_, ?_, ?_, fun b hb => ?_⟩
 · rcases mem_set hx with hx | hx
   · exact h.nn x hx
   · rw [h3] at hx; omega
 · rcases mem_set hx with hx | hx
   · have := h.up x hx
     omega
   · rw [h3] at hx
     subst hx
     rw [Int.mul_add]
     have : (W : Int) * p = ((W : Int) - 1) * p + p := by rw [Int.sub_mul, Int.one_mul]; omega
     omega
 · show (s.1.set _ _).sum = _
   rw [sum_set _ _ _ h1, h.sum, h3]
   omega
 · rcases hL.2.2 with e | e
   · obtain ⟨x, hx, hle⟩ := h.top
     obtain ⟨j, hj, hxj⟩ := List.getElem_of_mem hx
     by_cases ej : j = lst s.1
     · refine ⟨s.1.getD (lst s.1) 0 + p, List.mem_or_eq_of_mem_set (l := s.1) (i := lst s.1) (a := s.1.getD (lst s.1) 0 + p) (b := s.1.getD (lst s.1) 0 + p) ?_ |>.elim (fun _ => ?_) (fun _ => ?_), ?_⟩
       · exact List.mem_iff_getElem.2 ⟨lst s.1, by simpa using h1, by simp⟩
       · exact List.mem_iff_getElem.2 ⟨lst s.1, by simpa [stp] using h1, by simp [stp]⟩
       · exact List.mem_iff_getElem.2 ⟨lst s.1, by simpa [stp] using h1, by simp [stp]⟩
       · subst ej
         have : s.1.getD (lst s.1) 0 = x := by rw [List.getD_eq_getElem?_getD, List.getElem?_eq_getElem hj]; exact hxj
         rw [this, e]; omega
     · refine ⟨x, List.mem_iff_getElem.2 ⟨j, by simpa [stp] using hj, ?_⟩, by rw [e]; exact hle⟩
       simp only [stp]
       rw [List.getElem_set_ne (Ne.symm ej)]
       exact hxj
   · refine ⟨s.1.getD (lst s.1) 0 + p, List.mem_iff_getElem.2 ⟨lst s.1, by simpa [stp] using h1, by simp [stp]⟩, ?_⟩
     rw [h3, e]; omega
 · rcases List.mem_append.1 hb with hb | hb
   · exact h.out b hb
   · rw [List.mem_singleton] at hb
     subst hb
     have := h.len
     omega
def sums (ts : List (List Int)) (a : Int) : Int := ts.foldl (fun a t => a + wt t) a
def lng (ts : List (List Int)) (a : Int) : Int := ts.foldl (fun a t => amx a (wt t)) a
theorem sched_Gr {W : Nat} (hW : 1 <= W) : ∀ (ts : List (List Int)) (S L : Int) (s : List Int × List Int), Gr W S L s -> Gr W (sums ts S) (lng ts L) (sched ts s)
 | [], S, L, s, h => h
 | t :: ts, S, L, s, h => sched_Gr hW ts _ _ _ (h.step hW (by unfold wt; omega))
theorem start_Gr {W : Nat} (hW : 1 <= W) : Gr W 0 0 (List.replicate W 0, []) where
 len := by simp
 nn x hx := by rw [(List.mem_replicate.1 hx).2]; exact Int.le_refl _
 up x hx := by rw [(List.mem_replicate.1 hx).2]; simp
 sum := by
  have : ∀ n : Nat, (List.replicate n (0 : Int)).sum = 0 := fun n => by
   induction n with
   | zero => rfl
   | succ n ih => rw [List.replicate_succ, List.sum_cons, ih]; rfl
  exact this W
 top := ⟨0, List.mem_replicate.2 ⟨by omega, rfl⟩, Int.le_refl _⟩
 out b hb := by simp at hb
theorem asn_facts {ts : List (List Int)} {W : Int} (h : (val ts W).1 = 0) : ∃ k : Nat, W = (k : Int) /\ 1 <= k /\ k <= 8 /\ (asn ts W).1.length = ts.length /\ (∀ b ∈ (asn ts W).1, 0 <= b /\ b < W) /\
  sums ts 0 <= W * (asn ts W).2 /\ lng ts 0 <= (asn ts W).2 /\ W * (asn ts W).2 <= sums ts 0 + (W - 1) * lng ts 0 /\ 0 <= (asn ts W).2 /\ (asn ts W).2 <= 984 := by
 obtain ⟨_, hF⟩ := val_nought h
 have w1 := hF.w1
 have w8 := hF.w8
 obtain ⟨k, rfl⟩ : ∃ k : Nat, W = (k : Int) := ⟨W.toNat, by omega⟩
 refine ⟨k, rfl, by omega, by omega, ?_⟩
 have e : asn ts (k : Int) = ((asg ts (k : Int)).2, mx (asg ts (k : Int)).1) := by unfold asn; rw [if_pos (fine_iff.2 h)]
 have hT : TInv k (0 + ts.length) (asg ts (k : Int)) := sched_T (W := k) (by omega) ts 0 _ (fun t ht => (hF.ok t ht).1) (start_T k)
 have hG : Gr k (sums ts 0) (lng ts 0) (asg ts (k : Int)) := sched_Gr (by omega) ts 0 0 _ (start_Gr (by omega))
 have hne : (asg ts (k : Int)).1 ≠ [] := fun e => by have := hT.len; rw [e] at this; simp at this; omega
 obtain ⟨m1, m2⟩ := mx_spec hne
 rw [e]
 have hl := hF.len
 refine ⟨by have := hT.out; simpa using this, hG.out, ?_, ?_, hG.up _ m1, hG.nn _ m1, ?_⟩
 · have := sum_high _ m2
   rw [hG.sum, hG.len] at this
   exact this
 · obtain ⟨x, hx, hle⟩ := hG.top
   exact Int.le_trans hle (m2 x hx)
 · have := (hT.bnd _ m1).2
   show mx (asg ts (k : Int)).1 <= 984
   omega
theorem sw_loop {ts : List (List Int)} (hl : ts.length <= 24) (ht : ∀ t ∈ ts, t.length <= 40) {K : Int -> Prop} : ∀ (fu i : Nat) (a : Int), i <= ts.length -> ts.length - i < fu -> 0 <= a /\ a <= 41 * (i : Int) -> K (sums (ts.drop i) a) -> L.b1_L1_R ts fu a i K
 | 0, i, a, _, h, _, _ => by omega
 | fu + 1, i, a, hi, h, ha, hK => by
  show L.b1_L1_b ts a i _ _
  unfold L.b1_L1_b
  rcases Nat.lt_or_ge i ts.length with g | g
  · rw [drop_cons ([] : List Int) g] at hK
    have htl := ht _ (getD_mem ([] : List Int) g)
    refine cond_t (by simp; omega) ⟨inB_of (by omega) (by omega), ?_⟩
    rw [toNat_cast, i64_succ (i := i) (by omega), i64_id (n := ((ts.getD i []).length : Int) + 1) (by omega) (by omega), i64_id (by omega) (by omega)]
    exact sw_loop hl ht fu (i + 1) _ (by omega) (by omega) (by omega) hK
  · rw [List.drop_eq_nil_of_le g] at hK
    exact cond_f (by simp; omega) hK
theorem wo_loop {l : List Int} (hl : l.length <= 100) (hz : ∀ x ∈ l, x = 0) {K : List Int -> Prop} (hK : K []) : ∀ (fu i : Nat), i <= l.length -> l.length - i < fu -> L.a0_L1_R l 0 fu i [] K
 | 0, i, _, h => by omega
 | fu + 1, i, hi, h => by
  show L.a0_L1_b l 0 i _ _ _
  unfold L.a0_L1_b
  rcases Nat.lt_or_ge i l.length with g | g
  · refine cond_t (by simp; omega) ⟨inB_of (by omega) (by omega), ?_⟩
    rw [toNat_cast, hz _ (getD_mem (0 : Int) g), i64_succ (by omega)]
    exact cond_f rfl (wo_loop hl hz hK fu (i + 1) (by omega) (by omega))
  · exact cond_f (by simp; omega) hK
theorem wo_ok {l : List Int} (hl : l.length <= 100) (hz : ∀ x ∈ l, x = 0) {K : List Int -> Prop} (hK : K []) : L.a0 l 0 K :=
 ⟨⟨⟨l.length + 1, wo_loop hl hz hK _ 0 (by omega) (by omega)⟩⟩⟩
theorem has_nil {K : Bool -> Prop} (hK : K false) : L.b0 [] 0 K := ⟨⟨⟨1, by
 show L.b0_L1_b [] 0 0 _ _ _
 unfold L.b0_L1_b
 exact cond_f rfl hK⟩⟩⟩
theorem sw_true (ts : List (List Int)) (K : Bool -> Prop) (hK : K true) : L.b1 ts K := by
 constructor
 unfold L.b1_B
 refine asn_ok (ex_ok (cond_f rfl ?_))
 by_cases h : (val ts 1).1 = 0
 · refine cond_f (by rw [h]; rfl) ?_
   obtain ⟨_, hF⟩ := val_nought h
   obtain ⟨k, hk, k1, k8, h1, h2, h3, h4, h5, h6, h7⟩ := asn_facts h
   have hl := hF.len
   have hz : ∀ x ∈ (asn ts 1).1, x = 0 := fun x hx => by have := h2 x hx; omega
   refine ⟨⟨ts.length + 1, sw_loop (K := fun sum => (bif (((asn ts 1).1.length : Int) == (ts.length : Int)) then L.a0 (asn ts 1).1 0 (fun r3 => L.b0 r3 0 (fun r4 => (bif (bif true then (!r4) else false) then L.a0 (asn ts 1).1 0 (fun r5 => K (bif (bif true then ((r5.length : Int) == 0) else false) then ((asn ts 1).2 == sum) else false)) else K (bif false then ((asn ts 1).2 == sum) else false)))) else K (bif false then ((asn ts 1).2 == sum) else false))) hl (fun t ht => (hF.ok t ht).1) _ 0 0 (by omega) (by omega) (by omega) ?_⟩⟩
   rw [List.drop_zero]
   refine cond_t (by rw [h1]; simp) (wo_ok (by omega) hz (has_nil (cond_t rfl (wo_ok (by omega) hz ?_))))
   have : (asn ts 1).2 = sums ts 0 := by omega
   rw [this]
   simpa using hK
 · exact cond_t (by simpa using h) hK
end Wt
theorem W_true (xs : ArgDen [(false, .slice L.ya)]) (_ : WfAll _ xs) (K : Bool -> Prop) (hK : K true) : L.b1 xs.1 K := Wt.sw_true _ K hK
end Go.Proofs.Ytmdkmlgafnjhmaa
set_option maxRecDepth 100000
namespace Go.Proofs.Ytmdkmlgafnjhmaa
open Eng
namespace Wt
end Wt
end Go.Proofs.Ytmdkmlgafnjhmaa
set_option maxRecDepth 100000
namespace Go.Proofs.Ytmdkmlgafnjhmaa
open Eng
namespace Wt
end Wt
end Go.Proofs.Ytmdkmlgafnjhmaa
set_option maxRecDepth 100000
namespace Go.Proofs.Ytmdkmlgafnjhmaa
open Eng
namespace Wt
end Wt
end Go.Proofs.Ytmdkmlgafnjhmaa
set_option linter.unusedSimpArgs false
namespace Go.Proofs.Ytmdkmlgafnjhmaa
open Go.Conc Go.ConcM
section
variable {H : Type} {enc : TypeId × Value -> H}
end
end Go.Proofs.Ytmdkmlgafnjhmaa
set_option maxRecDepth 100000
namespace Go.Proofs.Ytmdkmlgafnjhmaa
open Eng Go.ChangeShapes Go.WideShapes Go.ChangeAt Go.RowKit
def W_ps : List (Bool × Ty) := [(false, (.slice L.ya))]
theorem W_sem (xs : ArgDen W_ps) (hw : WfAll W_ps xs) (_ : false = true -> bulkAll W_ps xs <= 1048576) : L.b1_S (lawArgs W_ps xs) isTrue := by
 have e : L.b1_S (lawArgs W_ps xs) isTrue = L.b1 xs.1 (fun r => isTrue (.x (.bool r)) []) := by kernel_rfl
 rw [e]
 exact W_true xs hw _ rfl
theorem W_own : ownKnob Try.prog.godebug = none := by kernel_rfl
theorem W_laid : laidOutB Try.prog = true := by kernel_rfl
theorem W_spec : LawSpec Rows.workpoolSingleWorkerIsSequentialSpec Try.f5.params.toList.length where
 vars := rfl
 res := fun H ds h => by
  match ds, h with
  | [d1], _ => rfl
 args := fun H ds h => by
  match ds, h with
  | [d1], _ => rfl
 left := fun H ds h => by
  match ds, h with
  | [d1], _ => rfl
theorem W_lifted (os : Os) (started : os.Started) (H : Type) (enc : TypeId × Value -> H) (F : Stop.Interp) :
  ReturnsInLeavingWide { calm := true } Try.checked os 5 .any (Rows.workpoolSingleWorkerIsSequentialSpec.pre6 enc Try.prog Try.f5 Rows.workpoolSingleWorkerIsSequentialRow.domain false) ((OpenSpec.ofChange Rows.workpoolSingleWorkerIsSequentialSpec).postWith enc Try.prog Try.f5 F (outsideKept [.timePasses]) false true false) := by
 refine returnsInLeavingWide_of_change_time (C := Try.checked) W_own started Try.func5
  (ChangeSpec.witness6c (enc := enc) (C := Try.checked) ⟨#[], #[.slice none 0 0], []⟩ 8 (by kernel_rfl) (by kernel_rfl) (by kernel_rfl) (by kernel_rfl)) ?_
 intro W base args ds gs before hval hW _ _ _
 exact law_conc (small := false) W_laid (ps := W_ps) (tb := 4) Try.func5 ⟨2, by kernel_rfl⟩ (by kernel_rfl) (by kernel_rfl) (by kernel_rfl) Try.underlying4 W_spec L.b1_ok W_sem hval hW (fun h => by cases h)
theorem WorkpoolSingleWorkerIsSequential_holds : Rows.WorkpoolSingleWorkerIsSequentialSaid :=
 OpenClaim.holds_of_wide_leaving_time 5 Try.f5 rfl rfl rfl rfl rfl rfl rfl ⟨rfl, rfl, rfl, rfl, rfl⟩ rfl rfl rfl rfl rfl (by kernel_rfl) Try.func5 (by kernel_rfl)
  (of_decide_eq_true (by kernel_rfl)) (by unfold Func.isWrapper; first | (rw [if_pos (by decide +kernel)]; kernel_rfl) | (rw [if_neg (by decide +kernel)]; exact ⟨rfl, rfl⟩))
  (fun os started H enc _ F => W_lifted os started H enc F)
#print axioms WorkpoolSingleWorkerIsSequential_holds
end Go.Proofs.Ytmdkmlgafnjhmaa

/-
 Part 6 of the proof of a law. Conditions: none.
-/
import Derived.Test.YtmdkmlgafnjhmaaQ5
import Derived.Test.YtmdkmlgafnjhmaaProg
set_option linter.unusedVariables false
set_option maxRecDepth 100000
namespace Go.Proofs.Ytmdkmlgafnjhmaa
open Eng
noncomputable abbrev L.pg : Program := Try.prog
noncomputable abbrev L.ex (Γ : Ctx) (Δ : CtxO) := exec L.pg (CC L.pg Γ Δ) (drawD L.pg Γ Δ)
theorem L.al {P C D N c} : AnnOk P C D N .leaf c := annOk_leaf _
theorem L.lb {a b : Nat} (h : Nat.ble a b = true) : a <= b := Nat.le_of_ble_eq_true h
def gA (vs : List V) (i : Nat) : V := vs.getD i .any
def gD (st : List Ob) (i : Nat) : Ob := st.getD i .dead
abbrev L.yb : Type := List (List Int)
abbrev L.ya : Ty := .slice (.int .i64)
def L.Γ_b9 : Ctx := ctx0
theorem L.Γ_b9_ok : SoundG L.pg L.Γ_b9 := ctx0_ok
def L.Δ_b9 : CtxO := ctxO0
theorem L.Δ_b9_ok : SoundGO L.pg L.Δ_b9 := ctxO0_ok
def L.b9_B (code index : Int) (K : Int -> Int -> Prop) : Prop :=
 K code index
structure L.b9 (code index : Int) (K : Int -> Int -> Prop) : Prop where
 out : L.b9_B code index K
def L.b9_ss : List Sh := [.int .i64, .int .i64]
def L.b9_G (vs : List V) (K : V -> List Ob -> Prop) : Prop := L.b9 (gI (gA vs 0)) (gI (gA vs 1)) (fun r0 r1 => K (.agg [.xi r0, .xi r1]) [])
def L.b9_S : SemF := fun args K => argF L.b9_ss args fun a => L.b9_G a K
noncomputable abbrev L.b9_N : SemF := run L.pg L.Γ_b9 L.Δ_b9 .leaf .any Try.f19
theorem L.b9_eq (code index : Int) (K : V -> List Ob -> Prop) : L.b9_N [.xi code, .xi index] K = L.b9_B code index (fun r0 r1 => K (.agg [.xi r0, .xi r1]) []) := by
 kernel_rfl
theorem L.b9_imp (vs : List V) (K : V -> List Ob -> Prop) : Imp (L.b9_G vs K) (L.b9_N (mkL L.b9_ss 0 vs) K) :=
 Imp.of (Eq.trans (b := L.b9_N [.xi (gI (gA vs 0)), .xi (gI (gA vs 1))] K) (by kernel_rfl) (L.b9_eq (gI (gA vs 0)) (gI (gA vs 1)) K)) fun h => (L.b9.out h)
theorem L.b9_ok : SoundFn L.pg 19 L.b9_S :=
 fn_ok (sem := L.b9_N) (ss := L.b9_ss) (G := L.b9_G) (run_ok L.Γ_b9_ok L.Δ_b9_ok Try.func19 (ann := .leaf) L.al) L.b9_imp
def L.Γ_a1 : Ctx := ctxC L.Γ_b9 19 L.b9_S
theorem L.Γ_a1_ok : SoundG L.pg L.Γ_a1 := ctxC_ok L.Γ_b9_ok L.b9_ok
def L.Δ_a1 : CtxO := L.Δ_b9
theorem L.Δ_a1_ok : SoundGO L.pg L.Δ_a1 := L.Δ_b9_ok
def L.a1_L2_b (y2 : L.yb) (i_1 k : Int) (self : Int -> Prop) (Kx2 : Prop) (Kr : Int -> Int -> Prop) : Prop :=
 (inB i_1 y2.length) /\ (bif (decide (k < ((y2.getD i_1.toNat []).length : Int))) then (inB i_1 y2.length) /\ (inB k (y2.getD i_1.toNat []).length) /\ ((((decide (((y2.getD i_1.toNat []).getD k.toNat 0) < 0)) == false) = true -> inB i_1 y2.length)) /\ ((((decide (((y2.getD i_1.toNat []).getD k.toNat 0) < 0)) == false) = true -> inB k (y2.getD i_1.toNat []).length)) /\ (bif (bif (decide (((y2.getD i_1.toNat []).getD k.toNat 0) < 0)) then true else (decide (((y2.getD i_1.toNat []).getD k.toNat 0) > 1000000000))) then L.b9 3 i_1 (fun rCode3 rIndex3 => Kr rCode3 rIndex3) else self (i64 (k + 1))) else Kx2)
def L.a1_L2_R (y2 : L.yb) (i_1 : Int) : Nat -> Int -> (Prop) -> (Int -> Int -> Prop) -> Prop
 | 0, _, _, _ => False
 | fu + 1, k, Kx2, Kr => L.a1_L2_b y2 i_1 k (fun k => L.a1_L2_R y2 i_1 fu k Kx2 Kr) Kx2 Kr
structure L.a1_L2 (y2 : L.yb) (i_1 k : Int) (Kx2 : Prop) (Kr : Int -> Int -> Prop) : Prop where
 out : ∃ fu, L.a1_L2_R y2 i_1 fu k Kx2 Kr
def L.a1_L2_d : LoopD := { base := 1, vecs := [], flds := [], keep := [0, 4, 5, 6], out := [0, 4, 5], rets := [4], rv := [], rbase := 1 }
def L.a1_L2_ss : List Sh := [.ro L.ya, .cl 0 0, .int .i64, .int .i64]
def L.a1_L2_os : List OSh := [.cells [.int .i64, .int .i64]]
def L.a1_L2_G (vs : List V) (st : List Ob) (K : Ex -> St) : Prop := L.a1_L2 (gR L.ya (gA vs 0)) (gI (gA vs 2)) (gI (gA vs 3)) (K (.exit 2) (bld [0, 4, 5] [.ro L.ya (gR L.ya (gA vs 0)), .cl 0 0, .xi (gI (gA vs 2))] 0 62) [.cells [.xi (cI st 0 0), .xi (cI st 0 1)]]) (fun q0_ q1_ => K .ret (bld [4] [.cl 0 0] 0 62) [.cells [.xi q0_, .xi q1_]])
def L.a1_L2_F (vs : List V) (st : List Ob) (K : Ex -> St) : Prop := fitF L.a1_L2_ss L.a1_L2_os vs st (L.a1_L2_G vs st K)
theorem L.a1_L2_eq (y2 : L.yb) (i_1 m02 m03 : Int) (K : Ex -> St) : ∀ (fu : Nat) (k : Int), L.a1_L2_R y2 i_1 fu k (K (.exit 2) (bld [0, 4, 5] [.ro L.ya y2, .cl 0 0, .xi i_1] 0 62) [.cells [.xi m02, .xi m03]]) (fun q0_ q1_ => K .ret (bld [4] [.cl 0 0] 0 62) [.cells [.xi q0_, .xi q1_]]) = iterL (stepL (L.ex L.Γ_a1 L.Δ_a1 .leaf (sub [true, true, true, false, true, false, false, true, false, false, true, true, false, false] (codeOf Try.f15))) 1 L.a1_L2_d K) fu (bld L.a1_L2_d.keep [.ro L.ya y2, .cl 0 0, .xi i_1, .xi k] 0 62) [.cells [.xi m02, .xi m03]] := by
 intro fu
 induction fu with
 | zero => intros; rfl
 | succ fu ih =>
  intro k
  have e : (fun k => L.a1_L2_R y2 i_1 fu k (K (.exit 2) (bld [0, 4, 5] [.ro L.ya y2, .cl 0 0, .xi i_1] 0 62) [.cells [.xi m02, .xi m03]]) (fun q0_ q1_ => K .ret (bld [4] [.cl 0 0] 0 62) [.cells [.xi q0_, .xi q1_]])) = fun k => iterL (stepL (L.ex L.Γ_a1 L.Δ_a1 .leaf (sub [true, true, true, false, true, false, false, true, false, false, true, true, false, false] (codeOf Try.f15))) 1 L.a1_L2_d K) fu (bld L.a1_L2_d.keep [.ro L.ya y2, .cl 0 0, .xi i_1, .xi k] 0 62) [.cells [.xi m02, .xi m03]] := by
   funext k; exact ih k
  show L.a1_L2_b y2 i_1 k (fun k => L.a1_L2_R y2 i_1 fu k (K (.exit 2) (bld [0, 4, 5] [.ro L.ya y2, .cl 0 0, .xi i_1] 0 62) [.cells [.xi m02, .xi m03]]) (fun q0_ q1_ => K .ret (bld [4] [.cl 0 0] 0 62) [.cells [.xi q0_, .xi q1_]])) (K (.exit 2) (bld [0, 4, 5] [.ro L.ya y2, .cl 0 0, .xi i_1] 0 62) [.cells [.xi m02, .xi m03]]) (fun q0_ q1_ => K .ret (bld [4] [.cl 0 0] 0 62) [.cells [.xi q0_, .xi q1_]]) = _
  rw [e]
  kernel_rfl
theorem L.a1_L2_imp (vs : List V) (st : List Ob) (K : Ex -> St) (h : L.a1_L2_G vs st K) : ∃ fu, iterL (stepL (L.ex L.Γ_a1 L.Δ_a1 .leaf (sub [true, true, true, false, true, false, false, true, false, false, true, true, false, false] (codeOf Try.f15))) 1 L.a1_L2_d K) fu (bld L.a1_L2_d.keep (mkL L.a1_L2_ss 0 vs) 0 62) (mkOs L.a1_L2_os 0 st) :=
 exMap (fun fu h => @Eq.mp _ _ (Eq.trans (L.a1_L2_eq (gR L.ya (gA vs 0)) (gI (gA vs 2)) (cI st 0 0) (cI st 0 1) K fu (gI (gA vs 3))) (by kernel_rfl)) h) (L.a1_L2.out h)
theorem L.a1_L2_ok : AnnOk L.pg (CC L.pg L.Γ_a1 L.Δ_a1) (drawD L.pg L.Γ_a1 L.Δ_a1) 0 (.lift L.a1_L2_d 62 L.a1_L2_F) (.loop (sub [true, true, true, false, true, false, false, true, false, false, true, true, false, false] (codeOf Try.f15))) :=
 lift_ok (an := .leaf) (ss := L.a1_L2_ss) (os := L.a1_L2_os) (G := L.a1_L2_G) rfl (L.lb rfl) L.al (L.a1_L2_imp)
def L.a1_L1_b (y1 : L.yb) (i_ : Int) (self : Int -> Prop) (Kx0 : Prop) (Kr : Int -> Int -> Prop) : Prop :=
 (bif (decide (i_ < (y1.length : Int))) then (inB i_ y1.length) /\ (bif (decide (((y1.getD i_.toNat []).length : Int) > 40)) then L.b9 2 i_ (fun rCode2 rIndex2 => Kr rCode2 rIndex2) else L.a1_L2 y1 i_ 0 (self (i64 (i_ + 1))) (fun m m1 => Kr m m1)) else Kx0)
def L.a1_L1_R (y1 : L.yb) : Nat -> Int -> (Prop) -> (Int -> Int -> Prop) -> Prop
 | 0, _, _, _ => False
 | fu + 1, i_, Kx0, Kr => L.a1_L1_b y1 i_ (fun i_ => L.a1_L1_R y1 fu i_ Kx0 Kr) Kx0 Kr
structure L.a1_L1 (y1 : L.yb) (i_ : Int) (Kx0 : Prop) (Kr : Int -> Int -> Prop) : Prop where
 out : ∃ fu, L.a1_L1_R y1 fu i_ Kx0 Kr
def L.a1_L1_d : LoopD := { base := 1, vecs := [], flds := [], keep := [0, 4, 5], out := [4], rets := [4], rv := [], rbase := 0 }
def L.a1_L1_ss : List Sh := [.ro L.ya, .cl 0 0, .int .i64]
def L.a1_L1_os : List OSh := [.cells [.int .i64, .int .i64]]
def L.a1_L1_G (vs : List V) (st : List Ob) (K : Ex -> St) : Prop := L.a1_L1 (gR L.ya (gA vs 0)) (gI (gA vs 2)) (K (.exit 0) (bld [4] [.cl 0 0] 0 62) [.cells [.xi (cI st 0 0), .xi (cI st 0 1)]]) (fun q0_ q1_ => K .ret (bld [4] [.cl 0 0] 0 62) [.cells [.xi q0_, .xi q1_]])
def L.a1_L1_F (vs : List V) (st : List Ob) (K : Ex -> St) : Prop := fitF L.a1_L1_ss L.a1_L1_os vs st (L.a1_L1_G vs st K)
theorem L.a1_L1_eq (y1 : L.yb) (m0 m01 : Int) (K : Ex -> St) : ∀ (fu : Nat) (i_ : Int), L.a1_L1_R y1 fu i_ (K (.exit 0) (bld [4] [.cl 0 0] 0 62) [.cells [.xi m0, .xi m01]]) (fun q0_ q1_ => K .ret (bld [4] [.cl 0 0] 0 62) [.cells [.xi q0_, .xi q1_]]) = iterL (stepL (L.ex L.Γ_a1 L.Δ_a1 (.node .leaf (.node (.node .leaf (.node .leaf (.lift L.a1_L2_d 62 L.a1_L2_F))) .leaf)) (sub [true, true, true, false, true, false, false] (codeOf Try.f15))) 1 L.a1_L1_d K) fu (bld L.a1_L1_d.keep [.ro L.ya y1, .cl 0 0, .xi i_] 0 62) [.cells [.xi m0, .xi m01]] := by
 intro fu
 induction fu with
 | zero => intros; rfl
 | succ fu ih =>
  intro i_
  have e : (fun i_ => L.a1_L1_R y1 fu i_ (K (.exit 0) (bld [4] [.cl 0 0] 0 62) [.cells [.xi m0, .xi m01]]) (fun q0_ q1_ => K .ret (bld [4] [.cl 0 0] 0 62) [.cells [.xi q0_, .xi q1_]])) = fun i_ => iterL (stepL (L.ex L.Γ_a1 L.Δ_a1 (.node .leaf (.node (.node .leaf (.node .leaf (.lift L.a1_L2_d 62 L.a1_L2_F))) .leaf)) (sub [true, true, true, false, true, false, false] (codeOf Try.f15))) 1 L.a1_L1_d K) fu (bld L.a1_L1_d.keep [.ro L.ya y1, .cl 0 0, .xi i_] 0 62) [.cells [.xi m0, .xi m01]] := by
   funext i_; exact ih i_
  show L.a1_L1_b y1 i_ (fun i_ => L.a1_L1_R y1 fu i_ (K (.exit 0) (bld [4] [.cl 0 0] 0 62) [.cells [.xi m0, .xi m01]]) (fun q0_ q1_ => K .ret (bld [4] [.cl 0 0] 0 62) [.cells [.xi q0_, .xi q1_]])) (K (.exit 0) (bld [4] [.cl 0 0] 0 62) [.cells [.xi m0, .xi m01]]) (fun q0_ q1_ => K .ret (bld [4] [.cl 0 0] 0 62) [.cells [.xi q0_, .xi q1_]]) = _
  rw [e]
  kernel_rfl
theorem L.a1_L1_imp (vs : List V) (st : List Ob) (K : Ex -> St) (h : L.a1_L1_G vs st K) : ∃ fu, iterL (stepL (L.ex L.Γ_a1 L.Δ_a1 (.node .leaf (.node (.node .leaf (.node .leaf (.lift L.a1_L2_d 62 L.a1_L2_F))) .leaf)) (sub [true, true, true, false, true, false, false] (codeOf Try.f15))) 1 L.a1_L1_d K) fu (bld L.a1_L1_d.keep (mkL L.a1_L1_ss 0 vs) 0 62) (mkOs L.a1_L1_os 0 st) :=
 exMap (fun fu h => @Eq.mp _ _ (Eq.trans (L.a1_L1_eq (gR L.ya (gA vs 0)) (cI st 0 0) (cI st 0 1) K fu (gI (gA vs 2))) (by kernel_rfl)) h) (L.a1_L1.out h)
theorem L.a1_L1_ok : AnnOk L.pg (CC L.pg L.Γ_a1 L.Δ_a1) (drawD L.pg L.Γ_a1 L.Δ_a1) 0 (.lift L.a1_L1_d 62 L.a1_L1_F) (.loop (sub [true, true, true, false, true, false, false] (codeOf Try.f15))) :=
 lift_ok (an := (.node .leaf (.node (.node .leaf (.node .leaf (.lift L.a1_L2_d 62 L.a1_L2_F))) .leaf))) (ss := L.a1_L1_ss) (os := L.a1_L1_os) (G := L.a1_L1_G) rfl (L.lb rfl) ⟨L.al, ⟨⟨L.al, ⟨L.al, L.a1_L2_ok⟩⟩, L.al⟩⟩ (L.a1_L1_imp)
def L.a1_B (tk : L.yb) (ws : Int) (K : Int -> Int -> Prop) : Prop :=
 (bif (bif (decide (ws < 1)) then true else (decide (ws > 8))) then L.b9 3 (-2) (fun rCode rIndex => K rCode rIndex) else (bif (decide ((tk.length : Int) > 24)) then L.b9 2 (-1) (fun rCode1 rIndex1 => K rCode1 rIndex1) else L.a1_L1 tk 0 (L.b9 0 0 (fun rCode2 rIndex2 => K rCode2 rIndex2)) (fun m m1 => K m m1)))
structure L.a1 (tk : L.yb) (ws : Int) (K : Int -> Int -> Prop) : Prop where
 out : L.a1_B tk ws K
def L.a1_ss : List Sh := [.ro L.ya, .int .i64]
def L.a1_G (vs : List V) (K : V -> List Ob -> Prop) : Prop := L.a1 (gR L.ya (gA vs 0)) (gI (gA vs 1)) (fun r0 r1 => K (.agg [.xi r0, .xi r1]) [])
def L.a1_S : SemF := fun args K => argF L.a1_ss args fun a => L.a1_G a K
noncomputable abbrev L.a1_N : SemF := run L.pg L.Γ_a1 L.Δ_a1 (.node .leaf (.node .leaf (.node .leaf (.node (.node .leaf (.lift L.a1_L1_d 62 L.a1_L1_F)) .leaf)))) .any Try.f15
theorem L.a1_eq (tk : L.yb) (ws : Int) (K : V -> List Ob -> Prop) : L.a1_N [.ro L.ya tk, .xi ws] K = L.a1_B tk ws (fun r0 r1 => K (.agg [.xi r0, .xi r1]) []) := by
 kernel_rfl
theorem L.a1_imp (vs : List V) (K : V -> List Ob -> Prop) : Imp (L.a1_G vs K) (L.a1_N (mkL L.a1_ss 0 vs) K) :=
 Imp.of (Eq.trans (b := L.a1_N [.ro L.ya (gR L.ya (gA vs 0)), .xi (gI (gA vs 1))] K) (by kernel_rfl) (L.a1_eq (gR L.ya (gA vs 0)) (gI (gA vs 1)) K)) fun h => (L.a1.out h)
theorem L.a1_ok : SoundFn L.pg 15 L.a1_S :=
 fn_ok (sem := L.a1_N) (ss := L.a1_ss) (G := L.a1_G) (run_ok L.Γ_a1_ok L.Δ_a1_ok Try.func15 (ann := (.node .leaf (.node .leaf (.node .leaf (.node (.node .leaf (.lift L.a1_L1_d 62 L.a1_L1_F)) .leaf))))) ⟨L.al, ⟨L.al, ⟨L.al, ⟨⟨L.al, L.a1_L1_ok⟩, L.al⟩⟩⟩⟩) L.a1_imp
def L.Γ_c5 : Ctx := ctxC L.Γ_a1 15 L.a1_S
theorem L.Γ_c5_ok : SoundG L.pg L.Γ_c5 := ctxC_ok L.Γ_a1_ok L.a1_ok
def L.Δ_c5 : CtxO := L.Δ_a1
theorem L.Δ_c5_ok : SoundGO L.pg L.Δ_c5 := L.Δ_a1_ok
def L.c5_B (n : Int) (K : Bool -> Prop) : Prop :=
 K (bif (decide (n < 0)) then true else (decide (n > 1000000000)))
structure L.c5 (n : Int) (K : Bool -> Prop) : Prop where
 out : L.c5_B n K
def L.c5_ss : List Sh := [.int .i64]
def L.c5_G (vs : List V) (K : V -> List Ob -> Prop) : Prop := L.c5 (gI (gA vs 0)) (fun r0 => K (.x (.bool r0)) [])
def L.c5_S : SemF := fun args K => argF L.c5_ss args fun a => L.c5_G a K
noncomputable abbrev L.c5_N : SemF := run L.pg L.Γ_c5 L.Δ_c5 .leaf .any Try.f41
theorem L.c5_eq (n : Int) (K : V -> List Ob -> Prop) : L.c5_N [.xi n] K = L.c5_B n (fun r0 => K (.x (.bool r0)) []) := by
 kernel_rfl
theorem L.c5_imp (vs : List V) (K : V -> List Ob -> Prop) : Imp (L.c5_G vs K) (L.c5_N (mkL L.c5_ss 0 vs) K) :=
 Imp.of (Eq.trans (b := L.c5_N [.xi (gI (gA vs 0))] K) (by kernel_rfl) (L.c5_eq (gI (gA vs 0)) K)) fun h => (L.c5.out h)
theorem L.c5_ok : SoundFn L.pg 41 L.c5_S :=
 fn_ok (sem := L.c5_N) (ss := L.c5_ss) (G := L.c5_G) (run_ok L.Γ_c5_ok L.Δ_c5_ok Try.func41 (ann := .leaf) L.al) L.c5_imp
def L.Γ_b2 : Ctx := ctxC L.Γ_c5 41 L.c5_S
theorem L.Γ_b2_ok : SoundG L.pg L.Γ_b2 := ctxC_ok L.Γ_c5_ok L.c5_ok
def L.Δ_b2 : CtxO := L.Δ_c5
theorem L.Δ_b2_ok : SoundGO L.pg L.Δ_b2 := L.Δ_c5_ok
def L.b2_L1_b (s1 : (List Int)) (v7 v8 : Int) (self : Int -> Prop) (Kx0 : Prop) (Kr : Int -> Prop) : Prop :=
 (bif (decide (v8 < v7)) then (inB v8 s1.length) /\ L.c5 (s1.getD v8.toNat 0) (fun r => (bif r then Kr v8 else self (i64 (v8 + 1)))) else Kx0)
def L.b2_L1_R (s1 : (List Int)) (v7 : Int) : Nat -> Int -> (Prop) -> (Int -> Prop) -> Prop
 | 0, _, _, _ => False
 | fu + 1, v8, Kx0, Kr => L.b2_L1_b s1 v7 v8 (fun v8 => L.b2_L1_R s1 v7 fu v8 Kx0 Kr) Kx0 Kr
structure L.b2_L1 (s1 : (List Int)) (v7 v8 : Int) (Kx0 : Prop) (Kr : Int -> Prop) : Prop where
 out : ∃ fu, L.b2_L1_R s1 v7 fu v8 Kx0 Kr
def L.b2_L1_d : LoopD := { base := 0, vecs := [], flds := [], keep := [0, 1, 7, 8], out := [], rets := [4], rv := [], rbase := 0 }
def L.b2_L1_ss : List Sh := [.ro (.int .i64), .fn 41 [] [], .int .i64, .int .i64]
def L.b2_L1_os : List OSh := []
def L.b2_L1_G (vs : List V) (st : List Ob) (K : Ex -> St) : Prop := L.b2_L1 (gR (.int .i64) (gA vs 0)) (gI (gA vs 2)) (gI (gA vs 3)) (K (.exit 0) (bld [] [] 0 19) []) (fun q0_ => K .ret (bld [4] [.xi q0_] 0 19) [])
def L.b2_L1_F (vs : List V) (st : List Ob) (K : Ex -> St) : Prop := fitF L.b2_L1_ss L.b2_L1_os vs st (L.b2_L1_G vs st K)
theorem L.b2_L1_eq (s1 : (List Int)) (v7 : Int) (K : Ex -> St) : ∀ (fu : Nat) (v8 : Int), L.b2_L1_R s1 v7 fu v8 (K (.exit 0) (bld [] [] 0 19) []) (fun q0_ => K .ret (bld [4] [.xi q0_] 0 19) []) = iterL (stepL (L.ex L.Γ_b2 L.Δ_b2 .leaf (sub [true, false, true, false, false] (codeOf Try.f23))) 0 L.b2_L1_d K) fu (bld L.b2_L1_d.keep [.ro (.int .i64) s1, .fn (.func 41) [] [], .xi v7, .xi v8] 0 19) [] := by
 intro fu
 induction fu with
 | zero => intros; rfl
 | succ fu ih =>
  intro v8
  have e : (fun v8 => L.b2_L1_R s1 v7 fu v8 (K (.exit 0) (bld [] [] 0 19) []) (fun q0_ => K .ret (bld [4] [.xi q0_] 0 19) [])) = fun v8 => iterL (stepL (L.ex L.Γ_b2 L.Δ_b2 .leaf (sub [true, false, true, false, false] (codeOf Try.f23))) 0 L.b2_L1_d K) fu (bld L.b2_L1_d.keep [.ro (.int .i64) s1, .fn (.func 41) [] [], .xi v7, .xi v8] 0 19) [] := by
   funext v8; exact ih v8
  show L.b2_L1_b s1 v7 v8 (fun v8 => L.b2_L1_R s1 v7 fu v8 (K (.exit 0) (bld [] [] 0 19) []) (fun q0_ => K .ret (bld [4] [.xi q0_] 0 19) [])) (K (.exit 0) (bld [] [] 0 19) []) (fun q0_ => K .ret (bld [4] [.xi q0_] 0 19) []) = _
  rw [e]
  kernel_rfl
theorem L.b2_L1_imp (vs : List V) (st : List Ob) (K : Ex -> St) (h : L.b2_L1_G vs st K) : ∃ fu, iterL (stepL (L.ex L.Γ_b2 L.Δ_b2 .leaf (sub [true, false, true, false, false] (codeOf Try.f23))) 0 L.b2_L1_d K) fu (bld L.b2_L1_d.keep (mkL L.b2_L1_ss 0 vs) 0 19) (mkOs L.b2_L1_os 0 st) :=
 exMap (fun fu h => @Eq.mp _ _ (Eq.trans (L.b2_L1_eq (gR (.int .i64) (gA vs 0)) (gI (gA vs 2)) K fu (gI (gA vs 3))) (by kernel_rfl)) h) (L.b2_L1.out h)
theorem L.b2_L1_ok : AnnOk L.pg (CC L.pg L.Γ_b2 L.Δ_b2) (drawD L.pg L.Γ_b2 L.Δ_b2) 0 (.lift L.b2_L1_d 19 L.b2_L1_F) (.loop (sub [true, false, true, false, false] (codeOf Try.f23))) :=
 lift_ok (an := .leaf) (ss := L.b2_L1_ss) (os := L.b2_L1_os) (G := L.b2_L1_G) rfl (L.lb rfl) L.al (L.b2_L1_imp)
def L.b2_B (s : (List Int)) (K : Int -> Prop) : Prop :=
 L.b2_L1 s (s.length : Int) 0 (K (-1)) (fun r => K r)
structure L.b2 (s : (List Int)) (K : Int -> Prop) : Prop where
 out : L.b2_B s K
def L.b2_ss : List Sh := [.ro (.int .i64), .fn 41 [] []]
def L.b2_G (vs : List V) (K : V -> List Ob -> Prop) : Prop := L.b2 (gR (.int .i64) (gA vs 0)) (fun r0 => K (.xi r0) [])
def L.b2_S : SemF := fun args K => argF L.b2_ss args fun a => L.b2_G a K
noncomputable abbrev L.b2_N : SemF := run L.pg L.Γ_b2 L.Δ_b2 (.node .leaf (.node (.node .leaf (.lift L.b2_L1_d 19 L.b2_L1_F)) .leaf)) .any Try.f23
theorem L.b2_eq (s : (List Int)) (K : V -> List Ob -> Prop) : L.b2_N [.ro (.int .i64) s, .fn (.func 41) [] []] K = L.b2_B s (fun r0 => K (.xi r0) []) := by
 kernel_rfl
theorem L.b2_imp (vs : List V) (K : V -> List Ob -> Prop) : Imp (L.b2_G vs K) (L.b2_N (mkL L.b2_ss 0 vs) K) :=
 Imp.of (Eq.trans (b := L.b2_N [.ro (.int .i64) (gR (.int .i64) (gA vs 0)), .fn (.func 41) [] []] K) (by kernel_rfl) (L.b2_eq (gR (.int .i64) (gA vs 0)) K)) fun h => (L.b2.out h)
theorem L.b2_ok : SoundFn L.pg 23 L.b2_S :=
 fn_ok (sem := L.b2_N) (ss := L.b2_ss) (G := L.b2_G) (run_ok L.Γ_b2_ok L.Δ_b2_ok Try.func23 (ann := (.node .leaf (.node (.node .leaf (.lift L.b2_L1_d 19 L.b2_L1_F)) .leaf))) ⟨L.al, ⟨⟨L.al, L.b2_L1_ok⟩, L.al⟩⟩) L.b2_imp
def L.Γ_c3 : Ctx := ctxA L.Γ_b2 23 L.b2_ss L.b2_G
theorem L.Γ_c3_ok : SoundG L.pg L.Γ_c3 := ctxA_ok L.Γ_b2_ok L.b2_ok
def L.Δ_c3 : CtxO := L.Δ_b2
theorem L.Δ_c3_ok : SoundGO L.pg L.Δ_c3 := L.Δ_b2_ok
def L.c3_B (s : (List Int)) (K : Bool -> Prop) : Prop :=
 L.b2 s (fun r => K (decide (r ≥ 0)))
structure L.c3 (s : (List Int)) (K : Bool -> Prop) : Prop where
 out : L.c3_B s K
def L.c3_ss : List Sh := [.ro (.int .i64), .fn 41 [] []]
def L.c3_G (vs : List V) (K : V -> List Ob -> Prop) : Prop := L.c3 (gR (.int .i64) (gA vs 0)) (fun r0 => K (.x (.bool r0)) [])
def L.c3_S : SemF := fun args K => argF L.c3_ss args fun a => L.c3_G a K
noncomputable abbrev L.c3_N : SemF := run L.pg L.Γ_c3 L.Δ_c3 .leaf .any Try.f40
theorem L.c3_eq (s : (List Int)) (K : V -> List Ob -> Prop) : L.c3_N [.ro (.int .i64) s, .fn (.func 41) [] []] K = L.c3_B s (fun r0 => K (.x (.bool r0)) []) := by
 kernel_rfl
theorem L.c3_imp (vs : List V) (K : V -> List Ob -> Prop) : Imp (L.c3_G vs K) (L.c3_N (mkL L.c3_ss 0 vs) K) :=
 Imp.of (Eq.trans (b := L.c3_N [.ro (.int .i64) (gR (.int .i64) (gA vs 0)), .fn (.func 41) [] []] K) (by kernel_rfl) (L.c3_eq (gR (.int .i64) (gA vs 0)) K)) fun h => (L.c3.out h)
theorem L.c3_ok : SoundFn L.pg 40 L.c3_S :=
 fn_ok (sem := L.c3_N) (ss := L.c3_ss) (G := L.c3_G) (run_ok L.Γ_c3_ok L.Δ_c3_ok Try.func40 (ann := .leaf) L.al) L.c3_imp
def L.Γ_b6 : Ctx := ctxA L.Γ_c3 40 L.c3_ss L.c3_G
theorem L.Γ_b6_ok : SoundG L.pg L.Γ_b6 := ctxA_ok L.Γ_c3_ok L.c3_ok
def L.Δ_b6 : CtxO := L.Δ_c3
theorem L.Δ_b6_ok : SoundGO L.pg L.Δ_b6 := L.Δ_c3_ok
def L.b6_B (task : (List Int)) (K : Int -> Prop) : Prop :=
 (bif (decide ((task.length : Int) > 40)) then K 2 else L.c3 task (fun r => (bif r then K 3 else K 0)))
structure L.b6 (task : (List Int)) (K : Int -> Prop) : Prop where
 out : L.b6_B task K
def L.b6_ss : List Sh := [.ro (.int .i64)]
def L.b6_G (vs : List V) (K : V -> List Ob -> Prop) : Prop := L.b6 (gR (.int .i64) (gA vs 0)) (fun r0 => K (.xi r0) [])
def L.b6_S : SemF := fun args K => argF L.b6_ss args fun a => L.b6_G a K
noncomputable abbrev L.b6_N : SemF := run L.pg L.Γ_b6 L.Δ_b6 .leaf .any Try.f30
theorem L.b6_eq (task : (List Int)) (K : V -> List Ob -> Prop) : L.b6_N [.ro (.int .i64) task] K = L.b6_B task (fun r0 => K (.xi r0) []) := by
 kernel_rfl
theorem L.b6_imp (vs : List V) (K : V -> List Ob -> Prop) : Imp (L.b6_G vs K) (L.b6_N (mkL L.b6_ss 0 vs) K) :=
 Imp.of (Eq.trans (b := L.b6_N [.ro (.int .i64) (gR (.int .i64) (gA vs 0))] K) (by kernel_rfl) (L.b6_eq (gR (.int .i64) (gA vs 0)) K)) fun h => (L.b6.out h)
theorem L.b6_ok : SoundFn L.pg 30 L.b6_S :=
 fn_ok (sem := L.b6_N) (ss := L.b6_ss) (G := L.b6_G) (run_ok L.Γ_b6_ok L.Δ_b6_ok Try.func30 (ann := .leaf) L.al) L.b6_imp
def L.Γ_a4 : Ctx := ctxC L.Γ_b6 30 L.b6_S
theorem L.Γ_a4_ok : SoundG L.pg L.Γ_a4 := ctxC_ok L.Γ_b6_ok L.b6_ok
def L.Δ_a4 : CtxO := L.Δ_b6
theorem L.Δ_a4_ok : SoundGO L.pg L.Δ_a4 := L.Δ_b6_ok
def L.a4_L1_b (v19 : L.yb) (v20 v21 : Int) (self : Int -> Prop) (Kx0 : Prop) (Kr : Int -> Int -> Prop) : Prop :=
 (bif (decide (v21 < v20)) then (inB v21 v19.length) /\ L.b6 (v19.getD v21.toNat []) (fun r => (bif (r != 0) then Kr r v21 else self (i64 (v21 + 1)))) else Kx0)
def L.a4_L1_R (v19 : L.yb) (v20 : Int) : Nat -> Int -> (Prop) -> (Int -> Int -> Prop) -> Prop
 | 0, _, _, _ => False
 | fu + 1, v21, Kx0, Kr => L.a4_L1_b v19 v20 v21 (fun v21 => L.a4_L1_R v19 v20 fu v21 Kx0 Kr) Kx0 Kr
structure L.a4_L1 (v19 : L.yb) (v20 v21 : Int) (Kx0 : Prop) (Kr : Int -> Int -> Prop) : Prop where
 out : ∃ fu, L.a4_L1_R v19 v20 fu v21 Kx0 Kr
def L.a4_L1_d : LoopD := { base := 1, vecs := [], flds := [], keep := [4, 19, 20, 21], out := [4], rets := [4], rv := [], rbase := 0 }
def L.a4_L1_ss : List Sh := [.cl 0 0, .ro L.ya, .int .i64, .int .i64]
def L.a4_L1_os : List OSh := [.cells [.int .i64, .int .i64]]
def L.a4_L1_G (vs : List V) (st : List Ob) (K : Ex -> St) : Prop := L.a4_L1 (gR L.ya (gA vs 1)) (gI (gA vs 2)) (gI (gA vs 3)) (K (.exit 0) (bld [4] [.cl 0 0] 0 35) [.cells [.xi (cI st 0 0), .xi (cI st 0 1)]]) (fun q0_ q1_ => K .ret (bld [4] [.cl 0 0] 0 35) [.cells [.xi q0_, .xi q1_]])
def L.a4_L1_F (vs : List V) (st : List Ob) (K : Ex -> St) : Prop := fitF L.a4_L1_ss L.a4_L1_os vs st (L.a4_L1_G vs st K)
theorem L.a4_L1_eq (v19 : L.yb) (v20 m0 m01 : Int) (K : Ex -> St) : ∀ (fu : Nat) (v21 : Int), L.a4_L1_R v19 v20 fu v21 (K (.exit 0) (bld [4] [.cl 0 0] 0 35) [.cells [.xi m0, .xi m01]]) (fun q0_ q1_ => K .ret (bld [4] [.cl 0 0] 0 35) [.cells [.xi q0_, .xi q1_]]) = iterL (stepL (L.ex L.Γ_a4 L.Δ_a4 .leaf (sub [true, true, true, false, true, false, false] (codeOf Try.f17))) 1 L.a4_L1_d K) fu (bld L.a4_L1_d.keep [.cl 0 0, .ro L.ya v19, .xi v20, .xi v21] 0 35) [.cells [.xi m0, .xi m01]] := by
 intro fu
 induction fu with
 | zero => intros; rfl
 | succ fu ih =>
  intro v21
  have e : (fun v21 => L.a4_L1_R v19 v20 fu v21 (K (.exit 0) (bld [4] [.cl 0 0] 0 35) [.cells [.xi m0, .xi m01]]) (fun q0_ q1_ => K .ret (bld [4] [.cl 0 0] 0 35) [.cells [.xi q0_, .xi q1_]])) = fun v21 => iterL (stepL (L.ex L.Γ_a4 L.Δ_a4 .leaf (sub [true, true, true, false, true, false, false] (codeOf Try.f17))) 1 L.a4_L1_d K) fu (bld L.a4_L1_d.keep [.cl 0 0, .ro L.ya v19, .xi v20, .xi v21] 0 35) [.cells [.xi m0, .xi m01]] := by
   funext v21; exact ih v21
  show L.a4_L1_b v19 v20 v21 (fun v21 => L.a4_L1_R v19 v20 fu v21 (K (.exit 0) (bld [4] [.cl 0 0] 0 35) [.cells [.xi m0, .xi m01]]) (fun q0_ q1_ => K .ret (bld [4] [.cl 0 0] 0 35) [.cells [.xi q0_, .xi q1_]])) (K (.exit 0) (bld [4] [.cl 0 0] 0 35) [.cells [.xi m0, .xi m01]]) (fun q0_ q1_ => K .ret (bld [4] [.cl 0 0] 0 35) [.cells [.xi q0_, .xi q1_]]) = _
  rw [e]
  kernel_rfl
theorem L.a4_L1_imp (vs : List V) (st : List Ob) (K : Ex -> St) (h : L.a4_L1_G vs st K) : ∃ fu, iterL (stepL (L.ex L.Γ_a4 L.Δ_a4 .leaf (sub [true, true, true, false, true, false, false] (codeOf Try.f17))) 1 L.a4_L1_d K) fu (bld L.a4_L1_d.keep (mkL L.a4_L1_ss 0 vs) 0 35) (mkOs L.a4_L1_os 0 st) :=
 exMap (fun fu h => @Eq.mp _ _ (Eq.trans (L.a4_L1_eq (gR L.ya (gA vs 1)) (gI (gA vs 2)) (cI st 0 0) (cI st 0 1) K fu (gI (gA vs 3))) (by kernel_rfl)) h) (L.a4_L1.out h)
theorem L.a4_L1_ok : AnnOk L.pg (CC L.pg L.Γ_a4 L.Δ_a4) (drawD L.pg L.Γ_a4 L.Δ_a4) 0 (.lift L.a4_L1_d 35 L.a4_L1_F) (.loop (sub [true, true, true, false, true, false, false] (codeOf Try.f17))) :=
 lift_ok (an := .leaf) (ss := L.a4_L1_ss) (os := L.a4_L1_os) (G := L.a4_L1_G) rfl (L.lb rfl) L.al (L.a4_L1_imp)
def L.a4_B (tk : L.yb) (ws : Int) (K : Int -> Int -> Prop) : Prop :=
 (bif (bif (decide (ws < 1)) then true else (decide (ws > 8))) then K 3 (-2) else (bif (decide ((tk.length : Int) > 24)) then K 2 (-1) else L.a4_L1 tk (tk.length : Int) 0 (K 0 0) (fun m m1 => K m m1)))
structure L.a4 (tk : L.yb) (ws : Int) (K : Int -> Int -> Prop) : Prop where
 out : L.a4_B tk ws K
def L.a4_ss : List Sh := [.ro L.ya, .int .i64]
def L.a4_G (vs : List V) (K : V -> List Ob -> Prop) : Prop := L.a4 (gR L.ya (gA vs 0)) (gI (gA vs 1)) (fun r0 r1 => K (.agg [.xi r0, .xi r1]) [])
def L.a4_S : SemF := fun args K => argF L.a4_ss args fun a => L.a4_G a K
noncomputable abbrev L.a4_N : SemF := run L.pg L.Γ_a4 L.Δ_a4 (.node .leaf (.node .leaf (.node .leaf (.node (.node .leaf (.lift L.a4_L1_d 35 L.a4_L1_F)) .leaf)))) .any Try.f17
theorem L.a4_eq (tk : L.yb) (ws : Int) (K : V -> List Ob -> Prop) : L.a4_N [.ro L.ya tk, .xi ws] K = L.a4_B tk ws (fun r0 r1 => K (.agg [.xi r0, .xi r1]) []) := by
 kernel_rfl
theorem L.a4_imp (vs : List V) (K : V -> List Ob -> Prop) : Imp (L.a4_G vs K) (L.a4_N (mkL L.a4_ss 0 vs) K) :=
 Imp.of (Eq.trans (b := L.a4_N [.ro L.ya (gR L.ya (gA vs 0)), .xi (gI (gA vs 1))] K) (by kernel_rfl) (L.a4_eq (gR L.ya (gA vs 0)) (gI (gA vs 1)) K)) fun h => (L.a4.out h)
theorem L.a4_ok : SoundFn L.pg 17 L.a4_S :=
 fn_ok (sem := L.a4_N) (ss := L.a4_ss) (G := L.a4_G) (run_ok L.Γ_a4_ok L.Δ_a4_ok Try.func17 (ann := (.node .leaf (.node .leaf (.node .leaf (.node (.node .leaf (.lift L.a4_L1_d 35 L.a4_L1_F)) .leaf))))) ⟨L.al, ⟨L.al, ⟨L.al, ⟨⟨L.al, L.a4_L1_ok⟩, L.al⟩⟩⟩⟩) L.a4_imp
def L.Γ_d0 : Ctx := ctxC L.Γ_a4 17 L.a4_S
theorem L.Γ_d0_ok : SoundG L.pg L.Γ_d0 := ctxC_ok L.Γ_a4_ok L.a4_ok
def L.Δ_d0 : CtxO := L.Δ_a4
theorem L.Δ_d0_ok : SoundGO L.pg L.Δ_d0 := L.Δ_a4_ok
def L.d0_B (tk : L.yb) (ws : Int) (K : (List Int) -> Prop) : Prop :=
 Pl.C tk ws /\ K (Pl.R tk ws)
structure L.d0 (tk : L.yb) (ws : Int) (K : (List Int) -> Prop) : Prop where
 out : L.d0_B tk ws K
def L.d0_ss : List Sh := [.ro L.ya, .int .i64]
def L.d0_G (vs : List V) (K : V -> List Ob -> Prop) : Prop := L.d0 (gR L.ya (gA vs 0)) (gI (gA vs 1)) (fun r0 => K (.vec 0) [.vec (.int .i64) 0 r0])
def L.d0_S : SemF := fun args K => argF L.d0_ss args fun a => L.d0_G a K
theorem L.d0_ok : SoundFn L.pg 22 L.d0_S := SoundFn.of_imp Pl.ok fun args K h => argF_mono (fun a h => h.out) h
def L.Γ_c0 : Ctx := ctxC L.Γ_d0 22 L.d0_S
theorem L.Γ_c0_ok : SoundG L.pg L.Γ_c0 := ctxC_ok L.Γ_d0_ok L.d0_ok
def L.Δ_c0 : CtxO := L.Δ_d0
theorem L.Δ_c0_ok : SoundGO L.pg L.Δ_c0 := L.Δ_d0_ok
def L.c0_B (tk : L.yb) (ws : Int) (K : (List Int) -> Int -> Int -> Prop) : Prop :=
 L.a4 tk ws (fun rCode rIndex => (bif (!((rCode == 0) && ((rIndex == 0) && true))) then K ([] : List Int) rCode rIndex else L.d0 tk ws (fun r => K r 0 0)))
structure L.c0 (tk : L.yb) (ws : Int) (K : (List Int) -> Int -> Int -> Prop) : Prop where
 out : L.c0_B tk ws K
def L.c0_ss : List Sh := [.ro L.ya, .int .i64]
def L.c0_G (vs : List V) (K : V -> List Ob -> Prop) : Prop := L.c0 (gR L.ya (gA vs 0)) (gI (gA vs 1)) (fun r0 r1 r2 => K (.tup [.vec 0, .agg [.xi r1, .xi r2]]) [.vec (.int .i64) 0 r0])
def L.c0_S : SemF := fun args K => argF L.c0_ss args fun a => L.c0_G a K
noncomputable abbrev L.c0_N : SemF := run L.pg L.Γ_c0 L.Δ_c0 .leaf (.tup [.sl (.int .i64), .any]) Try.f8
theorem L.c0_eq (tk : L.yb) (ws : Int) (K : V -> List Ob -> Prop) : L.c0_N [.ro L.ya tk, .xi ws] K = L.c0_B tk ws (fun r0 r1 r2 => K (.tup [.vec 0, .agg [.xi r1, .xi r2]]) [.vec (.int .i64) 0 r0]) := by
 kernel_rfl
theorem L.c0_imp (vs : List V) (K : V -> List Ob -> Prop) : Imp (L.c0_G vs K) (L.c0_N (mkL L.c0_ss 0 vs) K) :=
 Imp.of (Eq.trans (b := L.c0_N [.ro L.ya (gR L.ya (gA vs 0)), .xi (gI (gA vs 1))] K) (by kernel_rfl) (L.c0_eq (gR L.ya (gA vs 0)) (gI (gA vs 1)) K)) fun h => (L.c0.out h)
theorem L.c0_ok : SoundFn L.pg 8 L.c0_S :=
 fn_ok (sem := L.c0_N) (ss := L.c0_ss) (G := L.c0_G) (run_ok L.Γ_c0_ok L.Δ_c0_ok Try.func8 (ann := .leaf) L.al) L.c0_imp
def L.Γ_c8 : Ctx := ctxC L.Γ_c0 8 L.c0_S
theorem L.Γ_c8_ok : SoundG L.pg L.Γ_c8 := ctxC_ok L.Γ_c0_ok L.c0_ok
def L.Δ_c8 : CtxO := L.Δ_c0
theorem L.Δ_c8_ok : SoundGO L.pg L.Δ_c8 := L.Δ_c0_ok
def L.c8_B (a : Int) (K : Bool -> Prop) : Prop :=
 K (bif (decide (a ≥ 0)) then (decide (a < 2305843009213693951)) else false)
structure L.c8 (a : Int) (K : Bool -> Prop) : Prop where
 out : L.c8_B a K
def L.c8_ss : List Sh := [.int .i64]
def L.c8_G (vs : List V) (K : V -> List Ob -> Prop) : Prop := L.c8 (gI (gA vs 0)) (fun r0 => K (.x (.bool r0)) [])
def L.c8_S : SemF := fun args K => argF L.c8_ss args fun a => L.c8_G a K
noncomputable abbrev L.c8_N : SemF := run L.pg L.Γ_c8 L.Δ_c8 .leaf .any Try.f59
theorem L.c8_eq (a : Int) (K : V -> List Ob -> Prop) : L.c8_N [.xi a] K = L.c8_B a (fun r0 => K (.x (.bool r0)) []) := by
 kernel_rfl
theorem L.c8_imp (vs : List V) (K : V -> List Ob -> Prop) : Imp (L.c8_G vs K) (L.c8_N (mkL L.c8_ss 0 vs) K) :=
 Imp.of (Eq.trans (b := L.c8_N [.xi (gI (gA vs 0))] K) (by kernel_rfl) (L.c8_eq (gI (gA vs 0)) K)) fun h => (L.c8.out h)
theorem L.c8_ok : SoundFn L.pg 59 L.c8_S :=
 fn_ok (sem := L.c8_N) (ss := L.c8_ss) (G := L.c8_G) (run_ok L.Γ_c8_ok L.Δ_c8_ok Try.func59 (ann := .leaf) L.al) L.c8_imp
def L.Γ_b5 : Ctx := ctxC L.Γ_c8 59 L.c8_S
theorem L.Γ_b5_ok : SoundG L.pg L.Γ_b5 := ctxC_ok L.Γ_c8_ok L.c8_ok
def L.Δ_b5 : CtxO := L.Δ_c8
theorem L.Δ_b5_ok : SoundGO L.pg L.Δ_b5 := L.Δ_c8_ok
def L.b5_L1_b (a1 b1 out : Int) (self : Int -> Int -> Int -> Prop) (Kx0 : Int -> Prop) : Prop :=
 (bif (decide (b1 > 0)) then (bif ((i64 ((BitVec.ofInt 64 b1 &&& BitVec.ofInt 64 1).toNat)) == 1) then ((2305843009213693951 : Int) ≠ 0) /\ ((2305843009213693951 : Int) ≠ 0) /\ (0 <= (1 : Int)) /\ self ((i64 ((2 : Int) * a1)).tmod 2305843009213693951) (b1.fdiv (2 ^ (min (1 : Int).toNat 64))) ((i64 (out + a1)).tmod 2305843009213693951) else ((2305843009213693951 : Int) ≠ 0) /\ (0 <= (1 : Int)) /\ self ((i64 ((2 : Int) * a1)).tmod 2305843009213693951) (b1.fdiv (2 ^ (min (1 : Int).toNat 64))) out) else Kx0 out)
def L.b5_L1_R  : Nat -> Int -> Int -> Int -> (Int -> Prop) -> Prop
 | 0, _, _, _, _ => False
 | fu + 1, a1, b1, out, Kx0 => L.b5_L1_b a1 b1 out (fun a1 b1 out => L.b5_L1_R fu a1 b1 out Kx0) Kx0
structure L.b5_L1 (a1 b1 out : Int) (Kx0 : Int -> Prop) : Prop where
 out : ∃ fu, L.b5_L1_R fu a1 b1 out Kx0
def L.b5_L1_d : LoopD := { base := 0, vecs := [], flds := [], keep := [0, 1, 5], out := [5], rets := [4], rv := [], rbase := 0 }
def L.b5_L1_ss : List Sh := [.int .i64, .int .i64, .int .i64]
def L.b5_L1_os : List OSh := []
def L.b5_L1_G (vs : List V) (st : List Ob) (K : Ex -> St) : Prop := L.b5_L1 (gI (gA vs 0)) (gI (gA vs 1)) (gI (gA vs 2)) (fun q0_ => K (.exit 0) (bld [5] [.xi q0_] 0 21) [])
def L.b5_L1_F (vs : List V) (st : List Ob) (K : Ex -> St) : Prop := fitF L.b5_L1_ss L.b5_L1_os vs st (L.b5_L1_G vs st K)
theorem L.b5_L1_eq  (K : Ex -> St) : ∀ (fu : Nat) (a1 : Int) (b1 : Int) (out : Int), L.b5_L1_R fu a1 b1 out (fun q0_ => K (.exit 0) (bld [5] [.xi q0_] 0 21) []) = iterL (stepL (L.ex L.Γ_b5 L.Δ_b5 .leaf (sub [true, true, false, false, false] (codeOf Try.f86))) 0 L.b5_L1_d K) fu (bld L.b5_L1_d.keep [.xi a1, .xi b1, .xi out] 0 21) [] := by
 intro fu
 induction fu with
 | zero => intros; rfl
 | succ fu ih =>
  intro a1 b1 out
  have e : (fun a1 b1 out => L.b5_L1_R fu a1 b1 out (fun q0_ => K (.exit 0) (bld [5] [.xi q0_] 0 21) [])) = fun a1 b1 out => iterL (stepL (L.ex L.Γ_b5 L.Δ_b5 .leaf (sub [true, true, false, false, false] (codeOf Try.f86))) 0 L.b5_L1_d K) fu (bld L.b5_L1_d.keep [.xi a1, .xi b1, .xi out] 0 21) [] := by
   funext a1 b1 out; exact ih a1 b1 out
  show L.b5_L1_b a1 b1 out (fun a1 b1 out => L.b5_L1_R fu a1 b1 out (fun q0_ => K (.exit 0) (bld [5] [.xi q0_] 0 21) [])) (fun q0_ => K (.exit 0) (bld [5] [.xi q0_] 0 21) []) = _
  rw [e]
  kernel_rfl
theorem L.b5_L1_imp (vs : List V) (st : List Ob) (K : Ex -> St) (h : L.b5_L1_G vs st K) : ∃ fu, iterL (stepL (L.ex L.Γ_b5 L.Δ_b5 .leaf (sub [true, true, false, false, false] (codeOf Try.f86))) 0 L.b5_L1_d K) fu (bld L.b5_L1_d.keep (mkL L.b5_L1_ss 0 vs) 0 21) (mkOs L.b5_L1_os 0 st) :=
 exMap (fun fu h => @Eq.mp _ _ (Eq.trans (L.b5_L1_eq  K fu (gI (gA vs 0)) (gI (gA vs 1)) (gI (gA vs 2))) (by kernel_rfl)) h) (L.b5_L1.out h)
theorem L.b5_L1_ok : AnnOk L.pg (CC L.pg L.Γ_b5 L.Δ_b5) (drawD L.pg L.Γ_b5 L.Δ_b5) 0 (.lift L.b5_L1_d 21 L.b5_L1_F) (.loop (sub [true, true, false, false, false] (codeOf Try.f86))) :=
 lift_ok (an := .leaf) (ss := L.b5_L1_ss) (os := L.b5_L1_os) (G := L.b5_L1_G) rfl (L.lb rfl) L.al (L.b5_L1_imp)
def L.b5_B (a b : Int) (K : Int -> Prop) : Prop :=
 L.b5_L1 a b 0 (fun out => K out)
structure L.b5 (a b : Int) (K : Int -> Prop) : Prop where
 out : L.b5_B a b K
def L.b5_ss : List Sh := [.int .i64, .int .i64]
def L.b5_G (vs : List V) (K : V -> List Ob -> Prop) : Prop := L.b5 (gI (gA vs 0)) (gI (gA vs 1)) (fun r0 => K (.xi r0) [])
def L.b5_S : SemF := fun args K => argF L.b5_ss args fun a => L.b5_G a K
noncomputable abbrev L.b5_N : SemF := run L.pg L.Γ_b5 L.Δ_b5 (.node .leaf (.node .leaf (.node (.lift L.b5_L1_d 21 L.b5_L1_F) .leaf))) .any Try.f86
theorem L.b5_eq (a b : Int) (K : V -> List Ob -> Prop) : L.b5_N [.xi a, .xi b] K = L.b5_B a b (fun r0 => K (.xi r0) []) := by
 kernel_rfl
theorem L.b5_imp (vs : List V) (K : V -> List Ob -> Prop) : Imp (L.b5_G vs K) (L.b5_N (mkL L.b5_ss 0 vs) K) :=
 Imp.of (Eq.trans (b := L.b5_N [.xi (gI (gA vs 0)), .xi (gI (gA vs 1))] K) (by kernel_rfl) (L.b5_eq (gI (gA vs 0)) (gI (gA vs 1)) K)) fun h => (L.b5.out h)
theorem L.b5_ok : SoundFn L.pg 86 L.b5_S :=
 fn_ok (sem := L.b5_N) (ss := L.b5_ss) (G := L.b5_G) (run_ok L.Γ_b5_ok L.Δ_b5_ok Try.func86 (ann := (.node .leaf (.node .leaf (.node (.lift L.b5_L1_d 21 L.b5_L1_F) .leaf)))) ⟨L.al, ⟨L.al, ⟨L.b5_L1_ok, L.al⟩⟩⟩) L.b5_imp
def L.Γ_c1 : Ctx := ctxC L.Γ_b5 86 L.b5_S
theorem L.Γ_c1_ok : SoundG L.pg L.Γ_c1 := ctxC_ok L.Γ_b5_ok L.b5_ok
def L.Δ_c1 : CtxO := L.Δ_b5
theorem L.Δ_c1_ok : SoundGO L.pg L.Δ_c1 := L.Δ_b5_ok
def L.c1_B (s_0 s_1 factor : Int) (K : Int -> Prop) : Prop :=
 (inB 0 2) /\ (((0 : Int).toNat) < 2) /\ L.b5 (([s_0, s_1] : List Int).getD ((0 : Int).toNat) 0) factor (fun r => (inB 1 2) /\ (((1 : Int).toNat) < 2) /\ ((2305843009213693951 : Int) ≠ 0) /\ K ((i64 (r + (([s_0, s_1] : List Int).getD ((1 : Int).toNat) 0))).tmod 2305843009213693951))
structure L.c1 (s_0 s_1 factor : Int) (K : Int -> Prop) : Prop where
 out : L.c1_B s_0 s_1 factor K
def L.c1_ss : List Sh := [.agg [.int .i64, .int .i64], .int .i64]
def L.c1_G (vs : List V) (K : V -> List Ob -> Prop) : Prop := L.c1 (gI ((gC (gA vs 0)).getD 0 .any)) (gI ((gC (gA vs 0)).getD 1 .any)) (gI (gA vs 1)) (fun r0 => K (.xi r0) [])
def L.c1_S : SemF := fun args K => argF L.c1_ss args fun a => L.c1_G a K
noncomputable abbrev L.c1_N : SemF := run L.pg L.Γ_c1 L.Δ_c1 .leaf .any Try.f75
theorem L.c1_eq (s_0 s_1 factor : Int) (K : V -> List Ob -> Prop) : L.c1_N [.agg [.xi s_0, .xi s_1], .xi factor] K = L.c1_B s_0 s_1 factor (fun r0 => K (.xi r0) []) := by
 kernel_rfl
theorem L.c1_imp (vs : List V) (K : V -> List Ob -> Prop) : Imp (L.c1_G vs K) (L.c1_N (mkL L.c1_ss 0 vs) K) :=
 Imp.of (Eq.trans (b := L.c1_N [.agg [.xi (gI ((gC (gA vs 0)).getD 0 .any)), .xi (gI ((gC (gA vs 0)).getD 1 .any))], .xi (gI (gA vs 1))] K) (by kernel_rfl) (L.c1_eq (gI ((gC (gA vs 0)).getD 0 .any)) (gI ((gC (gA vs 0)).getD 1 .any)) (gI (gA vs 1)) K)) fun h => (L.c1.out h)
theorem L.c1_ok : SoundFn L.pg 75 L.c1_S :=
 fn_ok (sem := L.c1_N) (ss := L.c1_ss) (G := L.c1_G) (run_ok L.Γ_c1_ok L.Δ_c1_ok Try.func75 (ann := .leaf) L.al) L.c1_imp
def L.Γ_c7 : Ctx := ctxC L.Γ_c1 75 L.c1_S
theorem L.Γ_c7_ok : SoundG L.pg L.Γ_c7 := ctxC_ok L.Γ_c1_ok L.c1_ok
def L.Δ_c7 : CtxO := L.Δ_c1
theorem L.Δ_c7_ok : SoundGO L.pg L.Δ_c7 := L.Δ_c1_ok
def L.c7_B (a b : Int) (K : Int -> Prop) : Prop :=
 L.c1 b 7 31 (fun r => L.c1 a r 1000003 (fun r1 => K r1))
structure L.c7 (a b : Int) (K : Int -> Prop) : Prop where
 out : L.c7_B a b K
def L.c7_ss : List Sh := [.int .i64, .int .i64]
def L.c7_G (vs : List V) (K : V -> List Ob -> Prop) : Prop := L.c7 (gI (gA vs 0)) (gI (gA vs 1)) (fun r0 => K (.xi r0) [])
def L.c7_S : SemF := fun args K => argF L.c7_ss args fun a => L.c7_G a K
noncomputable abbrev L.c7_N : SemF := run L.pg L.Γ_c7 L.Δ_c7 .leaf .any Try.f60
theorem L.c7_eq (a b : Int) (K : V -> List Ob -> Prop) : L.c7_N [.xi a, .xi b] K = L.c7_B a b (fun r0 => K (.xi r0) []) := by
 kernel_rfl
theorem L.c7_imp (vs : List V) (K : V -> List Ob -> Prop) : Imp (L.c7_G vs K) (L.c7_N (mkL L.c7_ss 0 vs) K) :=
 Imp.of (Eq.trans (b := L.c7_N [.xi (gI (gA vs 0)), .xi (gI (gA vs 1))] K) (by kernel_rfl) (L.c7_eq (gI (gA vs 0)) (gI (gA vs 1)) K)) fun h => (L.c7.out h)
theorem L.c7_ok : SoundFn L.pg 60 L.c7_S :=
 fn_ok (sem := L.c7_N) (ss := L.c7_ss) (G := L.c7_G) (run_ok L.Γ_c7_ok L.Δ_c7_ok Try.func60 (ann := .leaf) L.al) L.c7_imp
def L.Γ_a5 : Ctx := ctxC L.Γ_c7 60 L.c7_S
theorem L.Γ_a5_ok : SoundG L.pg L.Γ_a5 := ctxC_ok L.Γ_c7_ok L.c7_ok
def L.Δ_a5 : CtxO := L.Δ_c7
theorem L.Δ_a5_ok : SoundGO L.pg L.Δ_a5 := L.Δ_c7_ok
def L.a5_L1_b (v10 v101 v11 : Int) (self : Int -> Prop) (Kx0 : Prop) (Kr : Int -> Int -> Int -> Prop) : Prop :=
 (bif (decide (v11 < 2)) then (inB v11 2) /\ L.c8 (([v10, v101] : List Int).getD v11.toNat 0) (fun r => (bif (!r) then Kr 0 3 v11 else self (i64 (v11 + 1)))) else Kx0)
def L.a5_L1_R (v10 v101 : Int) : Nat -> Int -> (Prop) -> (Int -> Int -> Int -> Prop) -> Prop
 | 0, _, _, _ => False
 | fu + 1, v11, Kx0, Kr => L.a5_L1_b v10 v101 v11 (fun v11 => L.a5_L1_R v10 v101 fu v11 Kx0 Kr) Kx0 Kr
structure L.a5_L1 (v10 v101 v11 : Int) (Kx0 : Prop) (Kr : Int -> Int -> Int -> Prop) : Prop where
 out : ∃ fu, L.a5_L1_R v10 v101 fu v11 Kx0 Kr
def L.a5_L1_d : LoopD := { base := 1, vecs := [], flds := [], keep := [0, 1, 5, 10, 11], out := [0, 1, 5], rets := [4, 5], rv := [], rbase := 0 }
def L.a5_L1_ss : List Sh := [.int .i64, .int .i64, .cl 0 0, .agg [.int .i64, .int .i64], .int .i64]
def L.a5_L1_os : List OSh := [.cells [.int .i64, .int .i64]]
def L.a5_L1_G (vs : List V) (st : List Ob) (K : Ex -> St) : Prop := L.a5_L1 (gI ((gC (gA vs 3)).getD 0 .any)) (gI ((gC (gA vs 3)).getD 1 .any)) (gI (gA vs 4)) (K (.exit 0) (bld [0, 1, 5] [.xi (gI (gA vs 0)), .xi (gI (gA vs 1)), .cl 0 0] 0 25) [.cells [.xi (cI st 0 0), .xi (cI st 0 1)]]) (fun q0_ q1_ q2_ => K .ret (bld [4, 5] [.xi q0_, .cl 0 0] 0 25) [.cells [.xi q1_, .xi q2_]])
def L.a5_L1_F (vs : List V) (st : List Ob) (K : Ex -> St) : Prop := fitF L.a5_L1_ss L.a5_L1_os vs st (L.a5_L1_G vs st K)
theorem L.a5_L1_eq (a1 b1 v10 v101 m0 m01 : Int) (K : Ex -> St) : ∀ (fu : Nat) (v11 : Int), L.a5_L1_R v10 v101 fu v11 (K (.exit 0) (bld [0, 1, 5] [.xi a1, .xi b1, .cl 0 0] 0 25) [.cells [.xi m0, .xi m01]]) (fun q0_ q1_ q2_ => K .ret (bld [4, 5] [.xi q0_, .cl 0 0] 0 25) [.cells [.xi q1_, .xi q2_]]) = iterL (stepL (L.ex L.Γ_a5 L.Δ_a5 .leaf (sub [true, false, true, false, false] (codeOf Try.f39))) 1 L.a5_L1_d K) fu (bld L.a5_L1_d.keep [.xi a1, .xi b1, .cl 0 0, .agg [.xi v10, .xi v101], .xi v11] 0 25) [.cells [.xi m0, .xi m01]] := by
 intro fu
 induction fu with
 | zero => intros; rfl
 | succ fu ih =>
  intro v11
  have e : (fun v11 => L.a5_L1_R v10 v101 fu v11 (K (.exit 0) (bld [0, 1, 5] [.xi a1, .xi b1, .cl 0 0] 0 25) [.cells [.xi m0, .xi m01]]) (fun q0_ q1_ q2_ => K .ret (bld [4, 5] [.xi q0_, .cl 0 0] 0 25) [.cells [.xi q1_, .xi q2_]])) = fun v11 => iterL (stepL (L.ex L.Γ_a5 L.Δ_a5 .leaf (sub [true, false, true, false, false] (codeOf Try.f39))) 1 L.a5_L1_d K) fu (bld L.a5_L1_d.keep [.xi a1, .xi b1, .cl 0 0, .agg [.xi v10, .xi v101], .xi v11] 0 25) [.cells [.xi m0, .xi m01]] := by
   funext v11; exact ih v11
  show L.a5_L1_b v10 v101 v11 (fun v11 => L.a5_L1_R v10 v101 fu v11 (K (.exit 0) (bld [0, 1, 5] [.xi a1, .xi b1, .cl 0 0] 0 25) [.cells [.xi m0, .xi m01]]) (fun q0_ q1_ q2_ => K .ret (bld [4, 5] [.xi q0_, .cl 0 0] 0 25) [.cells [.xi q1_, .xi q2_]])) (K (.exit 0) (bld [0, 1, 5] [.xi a1, .xi b1, .cl 0 0] 0 25) [.cells [.xi m0, .xi m01]]) (fun q0_ q1_ q2_ => K .ret (bld [4, 5] [.xi q0_, .cl 0 0] 0 25) [.cells [.xi q1_, .xi q2_]]) = _
  rw [e]
  kernel_rfl
theorem L.a5_L1_imp (vs : List V) (st : List Ob) (K : Ex -> St) (h : L.a5_L1_G vs st K) : ∃ fu, iterL (stepL (L.ex L.Γ_a5 L.Δ_a5 .leaf (sub [true, false, true, false, false] (codeOf Try.f39))) 1 L.a5_L1_d K) fu (bld L.a5_L1_d.keep (mkL L.a5_L1_ss 0 vs) 0 25) (mkOs L.a5_L1_os 0 st) :=
 exMap (fun fu h => @Eq.mp _ _ (Eq.trans (L.a5_L1_eq (gI (gA vs 0)) (gI (gA vs 1)) (gI ((gC (gA vs 3)).getD 0 .any)) (gI ((gC (gA vs 3)).getD 1 .any)) (cI st 0 0) (cI st 0 1) K fu (gI (gA vs 4))) (by kernel_rfl)) h) (L.a5_L1.out h)
theorem L.a5_L1_ok : AnnOk L.pg (CC L.pg L.Γ_a5 L.Δ_a5) (drawD L.pg L.Γ_a5 L.Δ_a5) 0 (.lift L.a5_L1_d 25 L.a5_L1_F) (.loop (sub [true, false, true, false, false] (codeOf Try.f39))) :=
 lift_ok (an := .leaf) (ss := L.a5_L1_ss) (os := L.a5_L1_os) (G := L.a5_L1_G) rfl (L.lb rfl) L.al (L.a5_L1_imp)
def L.a5_B (a b : Int) (K : Int -> Int -> Int -> Prop) : Prop :=
 L.a5_L1 a b 0 (L.c7 a b (fun r => K r 0 0)) (fun r1 m m1 => K r1 m m1)
structure L.a5 (a b : Int) (K : Int -> Int -> Int -> Prop) : Prop where
 out : L.a5_B a b K
def L.a5_ss : List Sh := [.int .i64, .int .i64]
def L.a5_G (vs : List V) (K : V -> List Ob -> Prop) : Prop := L.a5 (gI (gA vs 0)) (gI (gA vs 1)) (fun r0 r1 r2 => K (.tup [.xi r0, .agg [.xi r1, .xi r2]]) [])
def L.a5_S : SemF := fun args K => argF L.a5_ss args fun a => L.a5_G a K
noncomputable abbrev L.a5_N : SemF := run L.pg L.Γ_a5 L.Δ_a5 (.node .leaf (.node (.node .leaf (.lift L.a5_L1_d 25 L.a5_L1_F)) .leaf)) .any Try.f39
theorem L.a5_eq (a b : Int) (K : V -> List Ob -> Prop) : L.a5_N [.xi a, .xi b] K = L.a5_B a b (fun r0 r1 r2 => K (.tup [.xi r0, .agg [.xi r1, .xi r2]]) []) := by
 kernel_rfl
theorem L.a5_imp (vs : List V) (K : V -> List Ob -> Prop) : Imp (L.a5_G vs K) (L.a5_N (mkL L.a5_ss 0 vs) K) :=
 Imp.of (Eq.trans (b := L.a5_N [.xi (gI (gA vs 0)), .xi (gI (gA vs 1))] K) (by kernel_rfl) (L.a5_eq (gI (gA vs 0)) (gI (gA vs 1)) K)) fun h => (L.a5.out h)
theorem L.a5_ok : SoundFn L.pg 39 L.a5_S :=
 fn_ok (sem := L.a5_N) (ss := L.a5_ss) (G := L.a5_G) (run_ok L.Γ_a5_ok L.Δ_a5_ok Try.func39 (ann := (.node .leaf (.node (.node .leaf (.lift L.a5_L1_d 25 L.a5_L1_F)) .leaf))) ⟨L.al, ⟨⟨L.al, L.a5_L1_ok⟩, L.al⟩⟩) L.a5_imp
def L.Γ_b3 : Ctx := ctxC L.Γ_a5 39 L.a5_S
theorem L.Γ_b3_ok : SoundG L.pg L.Γ_b3 := ctxC_ok L.Γ_a5_ok L.a5_ok
def L.Δ_b3 : CtxO := L.Δ_a5
theorem L.Δ_b3_ok : SoundGO L.pg L.Δ_b3 := L.Δ_a5_ok
def L.b3_L1_b (v6 : (List Int)) (v7 v v8 : Int) (self : Int -> Int -> Prop) (Kx0 : Int -> Prop) : Prop :=
 (bif (decide (v8 < v7)) then (inB v8 v6.length) /\ L.a5 v (v6.getD v8.toNat 0) (fun r rCode rIndex => self r (i64 (v8 + 1))) else Kx0 v)
def L.b3_L1_R (v6 : (List Int)) (v7 : Int) : Nat -> Int -> Int -> (Int -> Prop) -> Prop
 | 0, _, _, _ => False
 | fu + 1, v, v8, Kx0 => L.b3_L1_b v6 v7 v v8 (fun v v8 => L.b3_L1_R v6 v7 fu v v8 Kx0) Kx0
structure L.b3_L1 (v6 : (List Int)) (v7 v v8 : Int) (Kx0 : Int -> Prop) : Prop where
 out : ∃ fu, L.b3_L1_R v6 v7 fu v v8 Kx0
def L.b3_L1_d : LoopD := { base := 0, vecs := [], flds := [], keep := [3, 6, 7, 8], out := [3], rets := [2], rv := [], rbase := 0 }
def L.b3_L1_ss : List Sh := [.int .i64, .ro (.int .i64), .int .i64, .int .i64]
def L.b3_L1_os : List OSh := []
def L.b3_L1_G (vs : List V) (st : List Ob) (K : Ex -> St) : Prop := L.b3_L1 (gR (.int .i64) (gA vs 1)) (gI (gA vs 2)) (gI (gA vs 0)) (gI (gA vs 3)) (fun q0_ => K (.exit 0) (bld [3] [.xi q0_] 0 20) [])
def L.b3_L1_F (vs : List V) (st : List Ob) (K : Ex -> St) : Prop := fitF L.b3_L1_ss L.b3_L1_os vs st (L.b3_L1_G vs st K)
theorem L.b3_L1_eq (v6 : (List Int)) (v7 : Int) (K : Ex -> St) : ∀ (fu : Nat) (v : Int) (v8 : Int), L.b3_L1_R v6 v7 fu v v8 (fun q0_ => K (.exit 0) (bld [3] [.xi q0_] 0 20) []) = iterL (stepL (L.ex L.Γ_b3 L.Δ_b3 .leaf (sub [true, true, false, true, false, false] (codeOf Try.f29))) 0 L.b3_L1_d K) fu (bld L.b3_L1_d.keep [.xi v, .ro (.int .i64) v6, .xi v7, .xi v8] 0 20) [] := by
 intro fu
 induction fu with
 | zero => intros; rfl
 | succ fu ih =>
  intro v v8
  have e : (fun v v8 => L.b3_L1_R v6 v7 fu v v8 (fun q0_ => K (.exit 0) (bld [3] [.xi q0_] 0 20) [])) = fun v v8 => iterL (stepL (L.ex L.Γ_b3 L.Δ_b3 .leaf (sub [true, true, false, true, false, false] (codeOf Try.f29))) 0 L.b3_L1_d K) fu (bld L.b3_L1_d.keep [.xi v, .ro (.int .i64) v6, .xi v7, .xi v8] 0 20) [] := by
   funext v v8; exact ih v v8
  show L.b3_L1_b v6 v7 v v8 (fun v v8 => L.b3_L1_R v6 v7 fu v v8 (fun q0_ => K (.exit 0) (bld [3] [.xi q0_] 0 20) [])) (fun q0_ => K (.exit 0) (bld [3] [.xi q0_] 0 20) []) = _
  rw [e]
  kernel_rfl
theorem L.b3_L1_imp (vs : List V) (st : List Ob) (K : Ex -> St) (h : L.b3_L1_G vs st K) : ∃ fu, iterL (stepL (L.ex L.Γ_b3 L.Δ_b3 .leaf (sub [true, true, false, true, false, false] (codeOf Try.f29))) 0 L.b3_L1_d K) fu (bld L.b3_L1_d.keep (mkL L.b3_L1_ss 0 vs) 0 20) (mkOs L.b3_L1_os 0 st) :=
 exMap (fun fu h => @Eq.mp _ _ (Eq.trans (L.b3_L1_eq (gR (.int .i64) (gA vs 1)) (gI (gA vs 2)) K fu (gI (gA vs 0)) (gI (gA vs 3))) (by kernel_rfl)) h) (L.b3_L1.out h)
theorem L.b3_L1_ok : AnnOk L.pg (CC L.pg L.Γ_b3 L.Δ_b3) (drawD L.pg L.Γ_b3 L.Δ_b3) 0 (.lift L.b3_L1_d 20 L.b3_L1_F) (.loop (sub [true, true, false, true, false, false] (codeOf Try.f29))) :=
 lift_ok (an := .leaf) (ss := L.b3_L1_ss) (os := L.b3_L1_os) (G := L.b3_L1_G) rfl (L.lb rfl) L.al (L.b3_L1_imp)
def L.b3_B (task : (List Int)) (K : Int -> Prop) : Prop :=
 L.b3_L1 task (task.length : Int) 0 0 (fun v => K v)
structure L.b3 (task : (List Int)) (K : Int -> Prop) : Prop where
 out : L.b3_B task K
def L.b3_ss : List Sh := [.ro (.int .i64)]
def L.b3_G (vs : List V) (K : V -> List Ob -> Prop) : Prop := L.b3 (gR (.int .i64) (gA vs 0)) (fun r0 => K (.xi r0) [])
def L.b3_S : SemF := fun args K => argF L.b3_ss args fun a => L.b3_G a K
noncomputable abbrev L.b3_N : SemF := run L.pg L.Γ_b3 L.Δ_b3 (.node .leaf (.node .leaf (.node (.node .leaf (.lift L.b3_L1_d 20 L.b3_L1_F)) .leaf))) .any Try.f29
theorem L.b3_eq (task : (List Int)) (K : V -> List Ob -> Prop) : L.b3_N [.ro (.int .i64) task] K = L.b3_B task (fun r0 => K (.xi r0) []) := by
 kernel_rfl
theorem L.b3_imp (vs : List V) (K : V -> List Ob -> Prop) : Imp (L.b3_G vs K) (L.b3_N (mkL L.b3_ss 0 vs) K) :=
 Imp.of (Eq.trans (b := L.b3_N [.ro (.int .i64) (gR (.int .i64) (gA vs 0))] K) (by kernel_rfl) (L.b3_eq (gR (.int .i64) (gA vs 0)) K)) fun h => (L.b3.out h)
theorem L.b3_ok : SoundFn L.pg 29 L.b3_S :=
 fn_ok (sem := L.b3_N) (ss := L.b3_ss) (G := L.b3_G) (run_ok L.Γ_b3_ok L.Δ_b3_ok Try.func29 (ann := (.node .leaf (.node .leaf (.node (.node .leaf (.lift L.b3_L1_d 20 L.b3_L1_F)) .leaf)))) ⟨L.al, ⟨L.al, ⟨⟨L.al, L.b3_L1_ok⟩, L.al⟩⟩⟩) L.b3_imp
def L.Γ_c6 : Ctx := ctxC L.Γ_b3 29 L.b3_S
theorem L.Γ_c6_ok : SoundG L.pg L.Γ_c6 := ctxC_ok L.Γ_b3_ok L.b3_ok
def L.Δ_c6 : CtxO := L.Δ_b3
theorem L.Δ_c6_ok : SoundGO L.pg L.Δ_c6 := L.Δ_b3_ok
def L.c6_B (tk : L.yb) (ws : Int) (K : Int -> Int -> Int -> Prop) : Prop :=
 L.c0 tk ws (fun r rCode rIndex => (bif (!((rCode == 0) && ((rIndex == 0) && true))) then K 0 rCode rIndex else L.b3 r (fun r1 => K r1 0 0)))
structure L.c6 (tk : L.yb) (ws : Int) (K : Int -> Int -> Int -> Prop) : Prop where
 out : L.c6_B tk ws K
def L.c6_ss : List Sh := [.ro L.ya, .int .i64]
def L.c6_G (vs : List V) (K : V -> List Ob -> Prop) : Prop := L.c6 (gR L.ya (gA vs 0)) (gI (gA vs 1)) (fun r0 r1 r2 => K (.tup [.xi r0, .agg [.xi r1, .xi r2]]) [])
def L.c6_S : SemF := fun args K => argF L.c6_ss args fun a => L.c6_G a K
noncomputable abbrev L.c6_N : SemF := run L.pg L.Γ_c6 L.Δ_c6 .leaf .any Try.f16
theorem L.c6_eq (tk : L.yb) (ws : Int) (K : V -> List Ob -> Prop) : L.c6_N [.ro L.ya tk, .xi ws] K = L.c6_B tk ws (fun r0 r1 r2 => K (.tup [.xi r0, .agg [.xi r1, .xi r2]]) []) := by
 kernel_rfl
theorem L.c6_imp (vs : List V) (K : V -> List Ob -> Prop) : Imp (L.c6_G vs K) (L.c6_N (mkL L.c6_ss 0 vs) K) :=
 Imp.of (Eq.trans (b := L.c6_N [.ro L.ya (gR L.ya (gA vs 0)), .xi (gI (gA vs 1))] K) (by kernel_rfl) (L.c6_eq (gR L.ya (gA vs 0)) (gI (gA vs 1)) K)) fun h => (L.c6.out h)
theorem L.c6_ok : SoundFn L.pg 16 L.c6_S :=
 fn_ok (sem := L.c6_N) (ss := L.c6_ss) (G := L.c6_G) (run_ok L.Γ_c6_ok L.Δ_c6_ok Try.func16 (ann := .leaf) L.al) L.c6_imp
def L.Γ_c9 : Ctx := ctxC L.Γ_c6 16 L.c6_S
theorem L.Γ_c9_ok : SoundG L.pg L.Γ_c9 := ctxC_ok L.Γ_c6_ok L.c6_ok
def L.Δ_c9 : CtxO := L.Δ_c6
theorem L.Δ_c9_ok : SoundGO L.pg L.Δ_c9 := L.Δ_c6_ok
def L.c9_B (n c : Int) (K : Bool -> Prop) : Prop :=
 K (decide (n < c))
structure L.c9 (n c : Int) (K : Bool -> Prop) : Prop where
 out : L.c9_B n c K
def L.c9_ss : List Sh := [.int .i64, .rc [.int .i64] 0]
def L.c9_G (vs : List V) (K : V -> List Ob -> Prop) : Prop := L.c9 (gI (gA vs 0)) (gI ((gC (gA vs 1)).getD 0 .any)) (fun r0 => K (.x (.bool r0)) [])
def L.c9_S : SemF := fun args K => argF L.c9_ss args fun a => L.c9_G a K
noncomputable abbrev L.c9_N : SemF := run L.pg L.Γ_c9 L.Δ_c9 .leaf .any Try.f24
theorem L.c9_eq (n c : Int) (K : V -> List Ob -> Prop) : L.c9_N [.xi n, .rc [.xi c] 0] K = L.c9_B n c (fun r0 => K (.x (.bool r0)) []) := by
 kernel_rfl
theorem L.c9_imp (vs : List V) (K : V -> List Ob -> Prop) : Imp (L.c9_G vs K) (L.c9_N (mkL L.c9_ss 0 vs) K) :=
 Imp.of (Eq.trans (b := L.c9_N [.xi (gI (gA vs 0)), .rc [.xi (gI ((gC (gA vs 1)).getD 0 .any))] 0] K) (by kernel_rfl) (L.c9_eq (gI (gA vs 0)) (gI ((gC (gA vs 1)).getD 0 .any)) K)) fun h => (L.c9.out h)
theorem L.c9_ok : SoundFn L.pg 24 L.c9_S :=
 fn_ok (sem := L.c9_N) (ss := L.c9_ss) (G := L.c9_G) (run_ok L.Γ_c9_ok L.Δ_c9_ok Try.func24 (ann := .leaf) L.al) L.c9_imp
def L.Γ_a9 : Ctx := ctxA L.Γ_c9 24 L.c9_ss L.c9_G
theorem L.Γ_a9_ok : SoundG L.pg L.Γ_a9 := ctxA_ok L.Γ_c9_ok L.c9_ok
def L.Δ_a9 : CtxO := L.Δ_c9
theorem L.Δ_a9_ok : SoundGO L.pg L.Δ_a9 := L.Δ_c9_ok
def L.a9_L1_b (s1 : (List Int)) (f1 v7 v8 : Int) (self : Int -> Prop) (Kx0 : Prop) (Kr : Int -> Prop) : Prop :=
 (bif (decide (v8 < v7)) then (inB v8 s1.length) /\ L.c9 (s1.getD v8.toNat 0) f1 (fun r => (bif r then Kr v8 else self (i64 (v8 + 1)))) else Kx0)
def L.a9_L1_R (s1 : (List Int)) (f1 v7 : Int) : Nat -> Int -> (Prop) -> (Int -> Prop) -> Prop
 | 0, _, _, _ => False
 | fu + 1, v8, Kx0, Kr => L.a9_L1_b s1 f1 v7 v8 (fun v8 => L.a9_L1_R s1 f1 v7 fu v8 Kx0 Kr) Kx0 Kr
structure L.a9_L1 (s1 : (List Int)) (f1 v7 v8 : Int) (Kx0 : Prop) (Kr : Int -> Prop) : Prop where
 out : ∃ fu, L.a9_L1_R s1 f1 v7 fu v8 Kx0 Kr
def L.a9_L1_d : LoopD := { base := 0, vecs := [], flds := [], keep := [0, 1, 7, 8], out := [], rets := [4], rv := [], rbase := 0 }
def L.a9_L1_ss : List Sh := [.ro (.int .i64), .fn 24 [] [.rc [.int .i64] 0], .int .i64, .int .i64]
def L.a9_L1_os : List OSh := []
def L.a9_L1_G (vs : List V) (st : List Ob) (K : Ex -> St) : Prop := L.a9_L1 (gR (.int .i64) (gA vs 0)) (gI ((gC ((gFc (gA vs 1)).getD 0 .any)).getD 0 .any)) (gI (gA vs 2)) (gI (gA vs 3)) (K (.exit 0) (bld [] [] 0 19) []) (fun q0_ => K .ret (bld [4] [.xi q0_] 0 19) [])
def L.a9_L1_F (vs : List V) (st : List Ob) (K : Ex -> St) : Prop := fitF L.a9_L1_ss L.a9_L1_os vs st (L.a9_L1_G vs st K)
theorem L.a9_L1_eq (s1 : (List Int)) (f1 v7 : Int) (K : Ex -> St) : ∀ (fu : Nat) (v8 : Int), L.a9_L1_R s1 f1 v7 fu v8 (K (.exit 0) (bld [] [] 0 19) []) (fun q0_ => K .ret (bld [4] [.xi q0_] 0 19) []) = iterL (stepL (L.ex L.Γ_a9 L.Δ_a9 .leaf (sub [true, false, true, false, false] (codeOf Try.f23))) 0 L.a9_L1_d K) fu (bld L.a9_L1_d.keep [.ro (.int .i64) s1, .fn (.func 24) [] [.rc [.xi f1] 0], .xi v7, .xi v8] 0 19) [] := by
 intro fu
 induction fu with
 | zero => intros; rfl
 | succ fu ih =>
  intro v8
  have e : (fun v8 => L.a9_L1_R s1 f1 v7 fu v8 (K (.exit 0) (bld [] [] 0 19) []) (fun q0_ => K .ret (bld [4] [.xi q0_] 0 19) [])) = fun v8 => iterL (stepL (L.ex L.Γ_a9 L.Δ_a9 .leaf (sub [true, false, true, false, false] (codeOf Try.f23))) 0 L.a9_L1_d K) fu (bld L.a9_L1_d.keep [.ro (.int .i64) s1, .fn (.func 24) [] [.rc [.xi f1] 0], .xi v7, .xi v8] 0 19) [] := by
   funext v8; exact ih v8
  show L.a9_L1_b s1 f1 v7 v8 (fun v8 => L.a9_L1_R s1 f1 v7 fu v8 (K (.exit 0) (bld [] [] 0 19) []) (fun q0_ => K .ret (bld [4] [.xi q0_] 0 19) [])) (K (.exit 0) (bld [] [] 0 19) []) (fun q0_ => K .ret (bld [4] [.xi q0_] 0 19) []) = _
  rw [e]
  kernel_rfl
theorem L.a9_L1_imp (vs : List V) (st : List Ob) (K : Ex -> St) (h : L.a9_L1_G vs st K) : ∃ fu, iterL (stepL (L.ex L.Γ_a9 L.Δ_a9 .leaf (sub [true, false, true, false, false] (codeOf Try.f23))) 0 L.a9_L1_d K) fu (bld L.a9_L1_d.keep (mkL L.a9_L1_ss 0 vs) 0 19) (mkOs L.a9_L1_os 0 st) :=
 exMap (fun fu h => @Eq.mp _ _ (Eq.trans (L.a9_L1_eq (gR (.int .i64) (gA vs 0)) (gI ((gC ((gFc (gA vs 1)).getD 0 .any)).getD 0 .any)) (gI (gA vs 2)) K fu (gI (gA vs 3))) (by kernel_rfl)) h) (L.a9_L1.out h)
theorem L.a9_L1_ok : AnnOk L.pg (CC L.pg L.Γ_a9 L.Δ_a9) (drawD L.pg L.Γ_a9 L.Δ_a9) 0 (.lift L.a9_L1_d 19 L.a9_L1_F) (.loop (sub [true, false, true, false, false] (codeOf Try.f23))) :=
 lift_ok (an := .leaf) (ss := L.a9_L1_ss) (os := L.a9_L1_os) (G := L.a9_L1_G) rfl (L.lb rfl) L.al (L.a9_L1_imp)
def L.a9_B (s : (List Int)) (f : Int) (K : Int -> Prop) : Prop :=
 L.a9_L1 s f (s.length : Int) 0 (K (-1)) (fun r => K r)
structure L.a9 (s : (List Int)) (f : Int) (K : Int -> Prop) : Prop where
 out : L.a9_B s f K
def L.a9_ss : List Sh := [.ro (.int .i64), .fn 24 [] [.rc [.int .i64] 0]]
def L.a9_G (vs : List V) (K : V -> List Ob -> Prop) : Prop := L.a9 (gR (.int .i64) (gA vs 0)) (gI ((gC ((gFc (gA vs 1)).getD 0 .any)).getD 0 .any)) (fun r0 => K (.xi r0) [])
def L.a9_S : SemF := fun args K => argF L.a9_ss args fun a => L.a9_G a K
noncomputable abbrev L.a9_N : SemF := run L.pg L.Γ_a9 L.Δ_a9 (.node .leaf (.node (.node .leaf (.lift L.a9_L1_d 19 L.a9_L1_F)) .leaf)) .any Try.f23
theorem L.a9_eq (s : (List Int)) (f : Int) (K : V -> List Ob -> Prop) : L.a9_N [.ro (.int .i64) s, .fn (.func 24) [] [.rc [.xi f] 0]] K = L.a9_B s f (fun r0 => K (.xi r0) []) := by
 kernel_rfl
theorem L.a9_imp (vs : List V) (K : V -> List Ob -> Prop) : Imp (L.a9_G vs K) (L.a9_N (mkL L.a9_ss 0 vs) K) :=
 Imp.of (Eq.trans (b := L.a9_N [.ro (.int .i64) (gR (.int .i64) (gA vs 0)), .fn (.func 24) [] [.rc [.xi (gI ((gC ((gFc (gA vs 1)).getD 0 .any)).getD 0 .any))] 0]] K) (by kernel_rfl) (L.a9_eq (gR (.int .i64) (gA vs 0)) (gI ((gC ((gFc (gA vs 1)).getD 0 .any)).getD 0 .any)) K)) fun h => (L.a9.out h)
theorem L.a9_ok : SoundFn L.pg 23 L.a9_S :=
 fn_ok (sem := L.a9_N) (ss := L.a9_ss) (G := L.a9_G) (run_ok L.Γ_a9_ok L.Δ_a9_ok Try.func23 (ann := (.node .leaf (.node (.node .leaf (.lift L.a9_L1_d 19 L.a9_L1_F)) .leaf))) ⟨L.al, ⟨⟨L.al, L.a9_L1_ok⟩, L.al⟩⟩) L.a9_imp
def L.Γ_b7 : Ctx := ctxA L.Γ_a9 23 L.a9_ss L.a9_G
theorem L.Γ_b7_ok : SoundG L.pg L.Γ_b7 := ctxA_ok L.Γ_a9_ok L.a9_ok
def L.Δ_b7 : CtxO := L.Δ_a9
theorem L.Δ_b7_ok : SoundGO L.pg L.Δ_b7 := L.Δ_a9_ok
def L.b7_B (tk : L.yb) (ws limit : Int) (K : Int -> Int -> Int -> Prop) : Prop :=
 L.c0 tk ws (fun r rCode rIndex => (bif (!((rCode == 0) && ((rIndex == 0) && true))) then K 0 rCode rIndex else (bif (bif (decide (limit < 0)) then true else (decide (limit > 2305843009213693951))) then K 0 3 (-3) else L.a9 r limit (fun r1 => (bif (decide (r1 < 0)) then K 0 6 (-4) else K r1 0 0)))))
structure L.b7 (tk : L.yb) (ws limit : Int) (K : Int -> Int -> Int -> Prop) : Prop where
 out : L.b7_B tk ws limit K
def L.b7_ss : List Sh := [.ro L.ya, .int .i64, .int .i64]
def L.b7_G (vs : List V) (K : V -> List Ob -> Prop) : Prop := L.b7 (gR L.ya (gA vs 0)) (gI (gA vs 1)) (gI (gA vs 2)) (fun r0 r1 r2 => K (.tup [.xi r0, .agg [.xi r1, .xi r2]]) [])
def L.b7_S : SemF := fun args K => argF L.b7_ss args fun a => L.b7_G a K
noncomputable abbrev L.b7_N : SemF := run L.pg L.Γ_b7 L.Δ_b7 .leaf .any Try.f9
theorem L.b7_eq (tk : L.yb) (ws limit : Int) (K : V -> List Ob -> Prop) : L.b7_N [.ro L.ya tk, .xi ws, .xi limit] K = L.b7_B tk ws limit (fun r0 r1 r2 => K (.tup [.xi r0, .agg [.xi r1, .xi r2]]) []) := by
 kernel_rfl
theorem L.b7_imp (vs : List V) (K : V -> List Ob -> Prop) : Imp (L.b7_G vs K) (L.b7_N (mkL L.b7_ss 0 vs) K) :=
 Imp.of (Eq.trans (b := L.b7_N [.ro L.ya (gR L.ya (gA vs 0)), .xi (gI (gA vs 1)), .xi (gI (gA vs 2))] K) (by kernel_rfl) (L.b7_eq (gR L.ya (gA vs 0)) (gI (gA vs 1)) (gI (gA vs 2)) K)) fun h => (L.b7.out h)
theorem L.b7_ok : SoundFn L.pg 9 L.b7_S :=
 fn_ok (sem := L.b7_N) (ss := L.b7_ss) (G := L.b7_G) (run_ok L.Γ_b7_ok L.Δ_b7_ok Try.func9 (ann := .leaf) L.al) L.b7_imp
def L.Γ_b1 : Ctx := ctxC L.Γ_b7 9 L.b7_S
theorem L.Γ_b1_ok : SoundG L.pg L.Γ_b1 := ctxC_ok L.Γ_b7_ok L.b7_ok
def L.Δ_b1 : CtxO := L.Δ_b7
theorem L.Δ_b1_ok : SoundGO L.pg L.Δ_b1 := L.Δ_b7_ok
def L.b1_L1_b (x1 : (List Int)) (m i_ : Int) (self : Int -> Int -> Prop) (Kx0 : Int -> Prop) : Prop :=
 (bif (decide (i_ < (x1.length : Int))) then (inB i_ x1.length) /\ self (amn m (x1.getD i_.toNat 0)) (i64 (i_ + 1)) else Kx0 m)
def L.b1_L1_R (x1 : (List Int)) : Nat -> Int -> Int -> (Int -> Prop) -> Prop
 | 0, _, _, _ => False
 | fu + 1, m, i_, Kx0 => L.b1_L1_b x1 m i_ (fun m i_ => L.b1_L1_R x1 fu m i_ Kx0) Kx0
structure L.b1_L1 (x1 : (List Int)) (m i_ : Int) (Kx0 : Int -> Prop) : Prop where
 out : ∃ fu, L.b1_L1_R x1 fu m i_ Kx0
def L.b1_L1_d : LoopD := { base := 0, vecs := [], flds := [], keep := [0, 3, 4], out := [3], rets := [2], rv := [], rbase := 0 }
def L.b1_L1_ss : List Sh := [.ro (.int .i64), .int .i64, .int .i64]
def L.b1_L1_os : List OSh := []
def L.b1_L1_G (vs : List V) (st : List Ob) (K : Ex -> St) : Prop := L.b1_L1 (gR (.int .i64) (gA vs 0)) (gI (gA vs 1)) (gI (gA vs 2)) (fun q0_ => K (.exit 0) (bld [3] [.xi q0_] 0 25) [])
def L.b1_L1_F (vs : List V) (st : List Ob) (K : Ex -> St) : Prop := fitF L.b1_L1_ss L.b1_L1_os vs st (L.b1_L1_G vs st K)
theorem L.b1_L1_eq (x1 : (List Int)) (K : Ex -> St) : ∀ (fu : Nat) (m : Int) (i_ : Int), L.b1_L1_R x1 fu m i_ (fun q0_ => K (.exit 0) (bld [3] [.xi q0_] 0 25) []) = iterL (stepL (L.ex L.Γ_b1 L.Δ_b1 .leaf (sub [true, true, true, false, true, false, false] (codeOf Try.f27))) 0 L.b1_L1_d K) fu (bld L.b1_L1_d.keep [.ro (.int .i64) x1, .xi m, .xi i_] 0 25) [] := by
 intro fu
 induction fu with
 | zero => intros; rfl
 | succ fu ih =>
  intro m i_
  have e : (fun m i_ => L.b1_L1_R x1 fu m i_ (fun q0_ => K (.exit 0) (bld [3] [.xi q0_] 0 25) [])) = fun m i_ => iterL (stepL (L.ex L.Γ_b1 L.Δ_b1 .leaf (sub [true, true, true, false, true, false, false] (codeOf Try.f27))) 0 L.b1_L1_d K) fu (bld L.b1_L1_d.keep [.ro (.int .i64) x1, .xi m, .xi i_] 0 25) [] := by
   funext m i_; exact ih m i_
  show L.b1_L1_b x1 m i_ (fun m i_ => L.b1_L1_R x1 fu m i_ (fun q0_ => K (.exit 0) (bld [3] [.xi q0_] 0 25) [])) (fun q0_ => K (.exit 0) (bld [3] [.xi q0_] 0 25) []) = _
  rw [e]
  kernel_rfl
theorem L.b1_L1_imp (vs : List V) (st : List Ob) (K : Ex -> St) (h : L.b1_L1_G vs st K) : ∃ fu, iterL (stepL (L.ex L.Γ_b1 L.Δ_b1 .leaf (sub [true, true, true, false, true, false, false] (codeOf Try.f27))) 0 L.b1_L1_d K) fu (bld L.b1_L1_d.keep (mkL L.b1_L1_ss 0 vs) 0 25) (mkOs L.b1_L1_os 0 st) :=
 exMap (fun fu h => @Eq.mp _ _ (Eq.trans (L.b1_L1_eq (gR (.int .i64) (gA vs 0)) K fu (gI (gA vs 1)) (gI (gA vs 2))) (by kernel_rfl)) h) (L.b1_L1.out h)
theorem L.b1_L1_ok : AnnOk L.pg (CC L.pg L.Γ_b1 L.Δ_b1) (drawD L.pg L.Γ_b1 L.Δ_b1) 0 (.lift L.b1_L1_d 25 L.b1_L1_F) (.loop (sub [true, true, true, false, true, false, false] (codeOf Try.f27))) :=
 lift_ok (an := .leaf) (ss := L.b1_L1_ss) (os := L.b1_L1_os) (G := L.b1_L1_G) rfl (L.lb rfl) L.al (L.b1_L1_imp)
def L.b1_B (x : (List Int)) (K : Int -> Prop) : Prop :=
 (bif (decide ((x.length : Int) < 1)) then False else (inB 0 x.length) /\ L.b1_L1 x (x.getD ((0 : Int).toNat) 0) 1 (fun m => K m))
structure L.b1 (x : (List Int)) (K : Int -> Prop) : Prop where
 out : L.b1_B x K
def L.b1_ss : List Sh := [.ro (.int .i64)]
def L.b1_G (vs : List V) (K : V -> List Ob -> Prop) : Prop := L.b1 (gR (.int .i64) (gA vs 0)) (fun r0 => K (.xi r0) [])
def L.b1_S : SemF := fun args K => argF L.b1_ss args fun a => L.b1_G a K
noncomputable abbrev L.b1_N : SemF := run L.pg L.Γ_b1 L.Δ_b1 (.node .leaf (.node .leaf (.node .leaf (.node (.node .leaf (.lift L.b1_L1_d 25 L.b1_L1_F)) .leaf)))) .any Try.f27
theorem L.b1_eq (x : (List Int)) (K : V -> List Ob -> Prop) : L.b1_N [.ro (.int .i64) x] K = L.b1_B x (fun r0 => K (.xi r0) []) := by
 kernel_rfl
theorem L.b1_imp (vs : List V) (K : V -> List Ob -> Prop) : Imp (L.b1_G vs K) (L.b1_N (mkL L.b1_ss 0 vs) K) :=
 Imp.of (Eq.trans (b := L.b1_N [.ro (.int .i64) (gR (.int .i64) (gA vs 0))] K) (by kernel_rfl) (L.b1_eq (gR (.int .i64) (gA vs 0)) K)) fun h => (L.b1.out h)
theorem L.b1_ok : SoundFn L.pg 27 L.b1_S :=
 fn_ok (sem := L.b1_N) (ss := L.b1_ss) (G := L.b1_G) (run_ok L.Γ_b1_ok L.Δ_b1_ok Try.func27 (ann := (.node .leaf (.node .leaf (.node .leaf (.node (.node .leaf (.lift L.b1_L1_d 25 L.b1_L1_F)) .leaf))))) ⟨L.al, ⟨L.al, ⟨L.al, ⟨⟨L.al, L.b1_L1_ok⟩, L.al⟩⟩⟩⟩) L.b1_imp
def L.Γ_b4 : Ctx := ctxC L.Γ_b1 27 L.b1_S
theorem L.Γ_b4_ok : SoundG L.pg L.Γ_b4 := ctxC_ok L.Γ_b1_ok L.b1_ok
def L.Δ_b4 : CtxO := L.Δ_b1
theorem L.Δ_b4_ok : SoundGO L.pg L.Δ_b4 := L.Δ_b1_ok
def L.b4_L1_b (s1 : (List Int)) (v1 v7 v8 : Int) (self : Int -> Prop) (Kx0 : Prop) (Kr : Int -> Prop) : Prop :=
 (bif (decide (v8 < v7)) then (inB v8 s1.length) /\ (bif (v1 == (s1.getD v8.toNat 0)) then Kr v8 else self (i64 (v8 + 1))) else Kx0)
def L.b4_L1_R (s1 : (List Int)) (v1 v7 : Int) : Nat -> Int -> (Prop) -> (Int -> Prop) -> Prop
 | 0, _, _, _ => False
 | fu + 1, v8, Kx0, Kr => L.b4_L1_b s1 v1 v7 v8 (fun v8 => L.b4_L1_R s1 v1 v7 fu v8 Kx0 Kr) Kx0 Kr
structure L.b4_L1 (s1 : (List Int)) (v1 v7 v8 : Int) (Kx0 : Prop) (Kr : Int -> Prop) : Prop where
 out : ∃ fu, L.b4_L1_R s1 v1 v7 fu v8 Kx0 Kr
def L.b4_L1_d : LoopD := { base := 0, vecs := [], flds := [], keep := [0, 1, 7, 8], out := [], rets := [4], rv := [], rbase := 0 }
def L.b4_L1_ss : List Sh := [.ro (.int .i64), .int .i64, .int .i64, .int .i64]
def L.b4_L1_os : List OSh := []
def L.b4_L1_G (vs : List V) (st : List Ob) (K : Ex -> St) : Prop := L.b4_L1 (gR (.int .i64) (gA vs 0)) (gI (gA vs 1)) (gI (gA vs 2)) (gI (gA vs 3)) (K (.exit 0) (bld [] [] 0 19) []) (fun q0_ => K .ret (bld [4] [.xi q0_] 0 19) [])
def L.b4_L1_F (vs : List V) (st : List Ob) (K : Ex -> St) : Prop := fitF L.b4_L1_ss L.b4_L1_os vs st (L.b4_L1_G vs st K)
theorem L.b4_L1_eq (s1 : (List Int)) (v1 v7 : Int) (K : Ex -> St) : ∀ (fu : Nat) (v8 : Int), L.b4_L1_R s1 v1 v7 fu v8 (K (.exit 0) (bld [] [] 0 19) []) (fun q0_ => K .ret (bld [4] [.xi q0_] 0 19) []) = iterL (stepL (L.ex L.Γ_b4 L.Δ_b4 .leaf (sub [true, false, true, false, false] (codeOf Try.f26))) 0 L.b4_L1_d K) fu (bld L.b4_L1_d.keep [.ro (.int .i64) s1, .xi v1, .xi v7, .xi v8] 0 19) [] := by
 intro fu
 induction fu with
 | zero => intros; rfl
 | succ fu ih =>
  intro v8
  have e : (fun v8 => L.b4_L1_R s1 v1 v7 fu v8 (K (.exit 0) (bld [] [] 0 19) []) (fun q0_ => K .ret (bld [4] [.xi q0_] 0 19) [])) = fun v8 => iterL (stepL (L.ex L.Γ_b4 L.Δ_b4 .leaf (sub [true, false, true, false, false] (codeOf Try.f26))) 0 L.b4_L1_d K) fu (bld L.b4_L1_d.keep [.ro (.int .i64) s1, .xi v1, .xi v7, .xi v8] 0 19) [] := by
   funext v8; exact ih v8
  show L.b4_L1_b s1 v1 v7 v8 (fun v8 => L.b4_L1_R s1 v1 v7 fu v8 (K (.exit 0) (bld [] [] 0 19) []) (fun q0_ => K .ret (bld [4] [.xi q0_] 0 19) [])) (K (.exit 0) (bld [] [] 0 19) []) (fun q0_ => K .ret (bld [4] [.xi q0_] 0 19) []) = _
  rw [e]
  kernel_rfl
theorem L.b4_L1_imp (vs : List V) (st : List Ob) (K : Ex -> St) (h : L.b4_L1_G vs st K) : ∃ fu, iterL (stepL (L.ex L.Γ_b4 L.Δ_b4 .leaf (sub [true, false, true, false, false] (codeOf Try.f26))) 0 L.b4_L1_d K) fu (bld L.b4_L1_d.keep (mkL L.b4_L1_ss 0 vs) 0 19) (mkOs L.b4_L1_os 0 st) :=
 exMap (fun fu h => @Eq.mp _ _ (Eq.trans (L.b4_L1_eq (gR (.int .i64) (gA vs 0)) (gI (gA vs 1)) (gI (gA vs 2)) K fu (gI (gA vs 3))) (by kernel_rfl)) h) (L.b4_L1.out h)
theorem L.b4_L1_ok : AnnOk L.pg (CC L.pg L.Γ_b4 L.Δ_b4) (drawD L.pg L.Γ_b4 L.Δ_b4) 0 (.lift L.b4_L1_d 19 L.b4_L1_F) (.loop (sub [true, false, true, false, false] (codeOf Try.f26))) :=
 lift_ok (an := .leaf) (ss := L.b4_L1_ss) (os := L.b4_L1_os) (G := L.b4_L1_G) rfl (L.lb rfl) L.al (L.b4_L1_imp)
def L.b4_B (s : (List Int)) (v : Int) (K : Int -> Prop) : Prop :=
 L.b4_L1 s v (s.length : Int) 0 (K (-1)) (fun r => K r)
structure L.b4 (s : (List Int)) (v : Int) (K : Int -> Prop) : Prop where
 out : L.b4_B s v K
def L.b4_ss : List Sh := [.ro (.int .i64), .int .i64]
def L.b4_G (vs : List V) (K : V -> List Ob -> Prop) : Prop := L.b4 (gR (.int .i64) (gA vs 0)) (gI (gA vs 1)) (fun r0 => K (.xi r0) [])
def L.b4_S : SemF := fun args K => argF L.b4_ss args fun a => L.b4_G a K
noncomputable abbrev L.b4_N : SemF := run L.pg L.Γ_b4 L.Δ_b4 (.node .leaf (.node (.node .leaf (.lift L.b4_L1_d 19 L.b4_L1_F)) .leaf)) .any Try.f26
theorem L.b4_eq (s : (List Int)) (v : Int) (K : V -> List Ob -> Prop) : L.b4_N [.ro (.int .i64) s, .xi v] K = L.b4_B s v (fun r0 => K (.xi r0) []) := by
 kernel_rfl
theorem L.b4_imp (vs : List V) (K : V -> List Ob -> Prop) : Imp (L.b4_G vs K) (L.b4_N (mkL L.b4_ss 0 vs) K) :=
 Imp.of (Eq.trans (b := L.b4_N [.ro (.int .i64) (gR (.int .i64) (gA vs 0)), .xi (gI (gA vs 1))] K) (by kernel_rfl) (L.b4_eq (gR (.int .i64) (gA vs 0)) (gI (gA vs 1)) K)) fun h => (L.b4.out h)
theorem L.b4_ok : SoundFn L.pg 26 L.b4_S :=
 fn_ok (sem := L.b4_N) (ss := L.b4_ss) (G := L.b4_G) (run_ok L.Γ_b4_ok L.Δ_b4_ok Try.func26 (ann := (.node .leaf (.node (.node .leaf (.lift L.b4_L1_d 19 L.b4_L1_F)) .leaf))) ⟨L.al, ⟨⟨L.al, L.b4_L1_ok⟩, L.al⟩⟩) L.b4_imp
def L.Γ_a8 : Ctx := ctxC L.Γ_b4 26 L.b4_S
theorem L.Γ_a8_ok : SoundG L.pg L.Γ_a8 := ctxC_ok L.Γ_b4_ok L.b4_ok
def L.Δ_a8 : CtxO := L.Δ_b4
theorem L.Δ_a8_ok : SoundGO L.pg L.Δ_a8 := L.Δ_b4_ok
def L.a8_L1_b (x1 : (List Int)) (m i_ : Int) (self : Int -> Int -> Prop) (Kx0 : Int -> Prop) : Prop :=
 (bif (decide (i_ < (x1.length : Int))) then (inB i_ x1.length) /\ self (amx m (x1.getD i_.toNat 0)) (i64 (i_ + 1)) else Kx0 m)
def L.a8_L1_R (x1 : (List Int)) : Nat -> Int -> Int -> (Int -> Prop) -> Prop
 | 0, _, _, _ => False
 | fu + 1, m, i_, Kx0 => L.a8_L1_b x1 m i_ (fun m i_ => L.a8_L1_R x1 fu m i_ Kx0) Kx0
structure L.a8_L1 (x1 : (List Int)) (m i_ : Int) (Kx0 : Int -> Prop) : Prop where
 out : ∃ fu, L.a8_L1_R x1 fu m i_ Kx0
def L.a8_L1_d : LoopD := { base := 0, vecs := [], flds := [], keep := [0, 3, 4], out := [3], rets := [2], rv := [], rbase := 0 }
def L.a8_L1_ss : List Sh := [.ro (.int .i64), .int .i64, .int .i64]
def L.a8_L1_os : List OSh := []
def L.a8_L1_G (vs : List V) (st : List Ob) (K : Ex -> St) : Prop := L.a8_L1 (gR (.int .i64) (gA vs 0)) (gI (gA vs 1)) (gI (gA vs 2)) (fun q0_ => K (.exit 0) (bld [3] [.xi q0_] 0 25) [])
def L.a8_L1_F (vs : List V) (st : List Ob) (K : Ex -> St) : Prop := fitF L.a8_L1_ss L.a8_L1_os vs st (L.a8_L1_G vs st K)
theorem L.a8_L1_eq (x1 : (List Int)) (K : Ex -> St) : ∀ (fu : Nat) (m : Int) (i_ : Int), L.a8_L1_R x1 fu m i_ (fun q0_ => K (.exit 0) (bld [3] [.xi q0_] 0 25) []) = iterL (stepL (L.ex L.Γ_a8 L.Δ_a8 .leaf (sub [true, true, true, false, true, false, false] (codeOf Try.f28))) 0 L.a8_L1_d K) fu (bld L.a8_L1_d.keep [.ro (.int .i64) x1, .xi m, .xi i_] 0 25) [] := by
 intro fu
 induction fu with
 | zero => intros; rfl
 | succ fu ih =>
  intro m i_
  have e : (fun m i_ => L.a8_L1_R x1 fu m i_ (fun q0_ => K (.exit 0) (bld [3] [.xi q0_] 0 25) [])) = fun m i_ => iterL (stepL (L.ex L.Γ_a8 L.Δ_a8 .leaf (sub [true, true, true, false, true, false, false] (codeOf Try.f28))) 0 L.a8_L1_d K) fu (bld L.a8_L1_d.keep [.ro (.int .i64) x1, .xi m, .xi i_] 0 25) [] := by
   funext m i_; exact ih m i_
  show L.a8_L1_b x1 m i_ (fun m i_ => L.a8_L1_R x1 fu m i_ (fun q0_ => K (.exit 0) (bld [3] [.xi q0_] 0 25) [])) (fun q0_ => K (.exit 0) (bld [3] [.xi q0_] 0 25) []) = _
  rw [e]
  kernel_rfl
theorem L.a8_L1_imp (vs : List V) (st : List Ob) (K : Ex -> St) (h : L.a8_L1_G vs st K) : ∃ fu, iterL (stepL (L.ex L.Γ_a8 L.Δ_a8 .leaf (sub [true, true, true, false, true, false, false] (codeOf Try.f28))) 0 L.a8_L1_d K) fu (bld L.a8_L1_d.keep (mkL L.a8_L1_ss 0 vs) 0 25) (mkOs L.a8_L1_os 0 st) :=
 exMap (fun fu h => @Eq.mp _ _ (Eq.trans (L.a8_L1_eq (gR (.int .i64) (gA vs 0)) K fu (gI (gA vs 1)) (gI (gA vs 2))) (by kernel_rfl)) h) (L.a8_L1.out h)
theorem L.a8_L1_ok : AnnOk L.pg (CC L.pg L.Γ_a8 L.Δ_a8) (drawD L.pg L.Γ_a8 L.Δ_a8) 0 (.lift L.a8_L1_d 25 L.a8_L1_F) (.loop (sub [true, true, true, false, true, false, false] (codeOf Try.f28))) :=
 lift_ok (an := .leaf) (ss := L.a8_L1_ss) (os := L.a8_L1_os) (G := L.a8_L1_G) rfl (L.lb rfl) L.al (L.a8_L1_imp)
def L.a8_B (x : (List Int)) (K : Int -> Prop) : Prop :=
 (bif (decide ((x.length : Int) < 1)) then False else (inB 0 x.length) /\ L.a8_L1 x (x.getD ((0 : Int).toNat) 0) 1 (fun m => K m))
structure L.a8 (x : (List Int)) (K : Int -> Prop) : Prop where
 out : L.a8_B x K
def L.a8_ss : List Sh := [.ro (.int .i64)]
def L.a8_G (vs : List V) (K : V -> List Ob -> Prop) : Prop := L.a8 (gR (.int .i64) (gA vs 0)) (fun r0 => K (.xi r0) [])
def L.a8_S : SemF := fun args K => argF L.a8_ss args fun a => L.a8_G a K
noncomputable abbrev L.a8_N : SemF := run L.pg L.Γ_a8 L.Δ_a8 (.node .leaf (.node .leaf (.node .leaf (.node (.node .leaf (.lift L.a8_L1_d 25 L.a8_L1_F)) .leaf)))) .any Try.f28
theorem L.a8_eq (x : (List Int)) (K : V -> List Ob -> Prop) : L.a8_N [.ro (.int .i64) x] K = L.a8_B x (fun r0 => K (.xi r0) []) := by
 kernel_rfl
theorem L.a8_imp (vs : List V) (K : V -> List Ob -> Prop) : Imp (L.a8_G vs K) (L.a8_N (mkL L.a8_ss 0 vs) K) :=
 Imp.of (Eq.trans (b := L.a8_N [.ro (.int .i64) (gR (.int .i64) (gA vs 0))] K) (by kernel_rfl) (L.a8_eq (gR (.int .i64) (gA vs 0)) K)) fun h => (L.a8.out h)
theorem L.a8_ok : SoundFn L.pg 28 L.a8_S :=
 fn_ok (sem := L.a8_N) (ss := L.a8_ss) (G := L.a8_G) (run_ok L.Γ_a8_ok L.Δ_a8_ok Try.func28 (ann := (.node .leaf (.node .leaf (.node .leaf (.node (.node .leaf (.lift L.a8_L1_d 25 L.a8_L1_F)) .leaf))))) ⟨L.al, ⟨L.al, ⟨L.al, ⟨⟨L.al, L.a8_L1_ok⟩, L.al⟩⟩⟩⟩) L.a8_imp
def L.Γ_a6 : Ctx := ctxC L.Γ_a8 28 L.a8_S
theorem L.Γ_a6_ok : SoundG L.pg L.Γ_a6 := ctxC_ok L.Γ_a8_ok L.a8_ok
def L.Δ_a6 : CtxO := L.Δ_a8
theorem L.Δ_a6_ok : SoundGO L.pg L.Δ_a6 := L.Δ_a8_ok
def L.a6_L1_b (v22 : L.yb) (v23 v24 : Int) (times out : (List Int)) (self : Int -> (List Int) -> (List Int) -> Prop) (Kx0 : (List Int) -> (List Int) -> Prop) : Prop :=
 (bif (decide (v24 < v23)) then (inB v24 v22.length) /\ L.b1 times (fun r => L.b4 times r (fun r1 => (inB r1 times.length) /\ (inB r1 times.length) /\ (fits (out.length + ([r1] : List Int).length)) /\ self (i64 (v24 + 1)) (times.set r1.toNat (i64 ((times.getD r1.toNat 0) + (i64 (((v22.getD v24.toNat []).length : Int) + 1))))) (out ++ ([r1] : List Int)))) else Kx0 times out)
def L.a6_L1_R (v22 : L.yb) (v23 : Int) : Nat -> Int -> (List Int) -> (List Int) -> ((List Int) -> (List Int) -> Prop) -> Prop
 | 0, _, _, _, _ => False
 | fu + 1, v24, times, out, Kx0 => L.a6_L1_b v22 v23 v24 times out (fun v24 times out => L.a6_L1_R v22 v23 fu v24 times out Kx0) Kx0
structure L.a6_L1 (v22 : L.yb) (v23 v24 : Int) (times out : (List Int)) (Kx0 : (List Int) -> (List Int) -> Prop) : Prop where
 out : ∃ fu, L.a6_L1_R v22 v23 fu v24 times out Kx0
def L.a6_L1_d : LoopD := { base := 3, vecs := [(9, .sl (.int .i64))], flds := [], keep := [6, 8, 9, 22, 23, 24], out := [6, 8, 9], rets := [4, 5, 6], rv := [], rbase := 0 }
def L.a6_L1_ss : List Sh := [.cl 0 0, .vec 2, .vec 3, .ro L.ya, .int .i64, .int .i64]
def L.a6_L1_os : List OSh := [.cells [.int .i64, .int .i64], .cells [.int .i64, .int .i64], .vec (.int .i64) true, .vec (.int .i64) true]
def L.a6_L1_G (vs : List V) (st : List Ob) (K : Ex -> St) : Prop := L.a6_L1 (gR L.ya (gA vs 3)) (gI (gA vs 4)) (gI (gA vs 5)) (oX (.int .i64) (gD st 2)) (oX (.int .i64) (gD st 3)) (fun q0_ q1_ => K (.exit 0) (bld [6, 8, 9] [.cl 0 0, .vec 2, .vec 3] 0 50) [.cells [.xi (cI st 0 0), .xi (cI st 0 1)], .cells [.xi (cI st 1 0), .xi (cI st 1 1)], .vec (.int .i64) 0 q0_, .vec (.int .i64) 0 q1_])
def L.a6_L1_F (vs : List V) (st : List Ob) (K : Ex -> St) : Prop := fitF L.a6_L1_ss L.a6_L1_os vs st (L.a6_L1_G vs st K)
theorem L.a6_L1_eq (v22 : L.yb) (v23 m0 m01 m1 m11 : Int) (K : Ex -> St) : ∀ (fu : Nat) (v24 : Int) (times : (List Int)) (out : (List Int)), L.a6_L1_R v22 v23 fu v24 times out (fun q0_ q1_ => K (.exit 0) (bld [6, 8, 9] [.cl 0 0, .vec 2, .vec 3] 0 50) [.cells [.xi m0, .xi m01], .cells [.xi m1, .xi m11], .vec (.int .i64) 0 q0_, .vec (.int .i64) 0 q1_]) = iterL (stepL (L.ex L.Γ_a6 L.Δ_a6 .leaf (sub [true, true, true, true, false, true, false, false] (codeOf Try.f12))) 3 L.a6_L1_d K) fu (bld L.a6_L1_d.keep [.cl 0 0, .vec 2, .vec 3, .ro L.ya v22, .xi v23, .xi v24] 0 50) [.cells [.xi m0, .xi m01], .cells [.xi m1, .xi m11], .vec (.int .i64) 0 times, .vec (.int .i64) 0 out] := by
 intro fu
 induction fu with
 | zero => intros; rfl
 | succ fu ih =>
  intro v24 times out
  have e : (fun v24 times out => L.a6_L1_R v22 v23 fu v24 times out (fun q0_ q1_ => K (.exit 0) (bld [6, 8, 9] [.cl 0 0, .vec 2, .vec 3] 0 50) [.cells [.xi m0, .xi m01], .cells [.xi m1, .xi m11], .vec (.int .i64) 0 q0_, .vec (.int .i64) 0 q1_])) = fun v24 times out => iterL (stepL (L.ex L.Γ_a6 L.Δ_a6 .leaf (sub [true, true, true, true, false, true, false, false] (codeOf Try.f12))) 3 L.a6_L1_d K) fu (bld L.a6_L1_d.keep [.cl 0 0, .vec 2, .vec 3, .ro L.ya v22, .xi v23, .xi v24] 0 50) [.cells [.xi m0, .xi m01], .cells [.xi m1, .xi m11], .vec (.int .i64) 0 times, .vec (.int .i64) 0 out] := by
   funext v24 times out; exact ih v24 times out
  show L.a6_L1_b v22 v23 v24 times out (fun v24 times out => L.a6_L1_R v22 v23 fu v24 times out (fun q0_ q1_ => K (.exit 0) (bld [6, 8, 9] [.cl 0 0, .vec 2, .vec 3] 0 50) [.cells [.xi m0, .xi m01], .cells [.xi m1, .xi m11], .vec (.int .i64) 0 q0_, .vec (.int .i64) 0 q1_])) (fun q0_ q1_ => K (.exit 0) (bld [6, 8, 9] [.cl 0 0, .vec 2, .vec 3] 0 50) [.cells [.xi m0, .xi m01], .cells [.xi m1, .xi m11], .vec (.int .i64) 0 q0_, .vec (.int .i64) 0 q1_]) = _
  rw [e]
  kernel_rfl
theorem L.a6_L1_imp (vs : List V) (st : List Ob) (K : Ex -> St) (h : L.a6_L1_G vs st K) : ∃ fu, iterL (stepL (L.ex L.Γ_a6 L.Δ_a6 .leaf (sub [true, true, true, true, false, true, false, false] (codeOf Try.f12))) 3 L.a6_L1_d K) fu (bld L.a6_L1_d.keep (mkL L.a6_L1_ss 0 vs) 0 50) (mkOs L.a6_L1_os 0 st) :=
 exMap (fun fu h => @Eq.mp _ _ (Eq.trans (L.a6_L1_eq (gR L.ya (gA vs 3)) (gI (gA vs 4)) (cI st 0 0) (cI st 0 1) (cI st 1 0) (cI st 1 1) K fu (gI (gA vs 5)) (oX (.int .i64) (gD st 2)) (oX (.int .i64) (gD st 3))) (by kernel_rfl)) h) (L.a6_L1.out h)
theorem L.a6_L1_ok : AnnOk L.pg (CC L.pg L.Γ_a6 L.Δ_a6) (drawD L.pg L.Γ_a6 L.Δ_a6) 0 (.lift L.a6_L1_d 50 L.a6_L1_F) (.loop (sub [true, true, true, true, false, true, false, false] (codeOf Try.f12))) :=
 lift_ok (an := .leaf) (ss := L.a6_L1_ss) (os := L.a6_L1_os) (G := L.a6_L1_G) rfl (L.lb rfl) L.al (L.a6_L1_imp)
def L.a6_B (tk : L.yb) (ws : Int) (K : (List Int) -> Int -> Int -> Int -> Prop) : Prop :=
 L.a4 tk ws (fun rCode rIndex => (bif (!((rCode == 0) && ((rIndex == 0) && true))) then K ([] : List Int) 0 rCode rIndex else (0 <= ws /\ ws <= ws /\ ws <= 1073741824) /\ L.a6_L1 tk (tk.length : Int) 0 (List.replicate ws.toNat (0 : Int)) ([] : List Int) (fun times out => L.a8 times (fun r => K out r 0 0))))
structure L.a6 (tk : L.yb) (ws : Int) (K : (List Int) -> Int -> Int -> Int -> Prop) : Prop where
 out : L.a6_B tk ws K
def L.a6_ss : List Sh := [.ro L.ya, .int .i64]
def L.a6_G (vs : List V) (K : V -> List Ob -> Prop) : Prop := L.a6 (gR L.ya (gA vs 0)) (gI (gA vs 1)) (fun r0 r1 r2 r3 => K (.tup [.vec 0, .xi r1, .agg [.xi r2, .xi r3]]) [.vec (.int .i64) 0 r0])
def L.a6_S : SemF := fun args K => argF L.a6_ss args fun a => L.a6_G a K
noncomputable abbrev L.a6_N : SemF := run L.pg L.Γ_a6 L.Δ_a6 (.node .leaf (.node .leaf (.node .leaf (.node .leaf (.node (.node .leaf (.lift L.a6_L1_d 50 L.a6_L1_F)) .leaf))))) (.tup [.sl (.int .i64), .any, .any]) Try.f12
theorem L.a6_eq (tk : L.yb) (ws : Int) (K : V -> List Ob -> Prop) : L.a6_N [.ro L.ya tk, .xi ws] K = L.a6_B tk ws (fun r0 r1 r2 r3 => K (.tup [.vec 0, .xi r1, .agg [.xi r2, .xi r3]]) [.vec (.int .i64) 0 r0]) := by
 kernel_rfl
theorem L.a6_imp (vs : List V) (K : V -> List Ob -> Prop) : Imp (L.a6_G vs K) (L.a6_N (mkL L.a6_ss 0 vs) K) :=
 Imp.of (Eq.trans (b := L.a6_N [.ro L.ya (gR L.ya (gA vs 0)), .xi (gI (gA vs 1))] K) (by kernel_rfl) (L.a6_eq (gR L.ya (gA vs 0)) (gI (gA vs 1)) K)) fun h => (L.a6.out h)
theorem L.a6_ok : SoundFn L.pg 12 L.a6_S :=
 fn_ok (sem := L.a6_N) (ss := L.a6_ss) (G := L.a6_G) (run_ok L.Γ_a6_ok L.Δ_a6_ok Try.func12 (ann := (.node .leaf (.node .leaf (.node .leaf (.node .leaf (.node (.node .leaf (.lift L.a6_L1_d 50 L.a6_L1_F)) .leaf)))))) ⟨L.al, ⟨L.al, ⟨L.al, ⟨L.al, ⟨⟨L.al, L.a6_L1_ok⟩, L.al⟩⟩⟩⟩⟩) L.a6_imp
def L.Γ_b0 : Ctx := ctxC L.Γ_a6 12 L.a6_S
theorem L.Γ_b0_ok : SoundG L.pg L.Γ_b0 := ctxC_ok L.Γ_a6_ok L.a6_ok
def L.Δ_b0 : CtxO := L.Δ_a6
theorem L.Δ_b0_ok : SoundGO L.pg L.Δ_b0 := L.Δ_a6_ok
def L.b0_L1_b (a1 b1 sum : Int) (self : Int -> Int -> Int -> Prop) (Kx0 : Int -> Prop) : Prop :=
 (bif (decide (b1 > 0)) then ((2 : Int) ≠ 0) /\ (bif ((b1.tmod 2) == 1) then ((2305843009213693951 : Int) ≠ 0) /\ ((2305843009213693951 : Int) ≠ 0) /\ ((2 : Int) ≠ 0) /\ self ((i64 ((2 : Int) * a1)).tmod 2305843009213693951) (i64 (b1.tdiv 2)) ((i64 (sum + a1)).tmod 2305843009213693951) else ((2305843009213693951 : Int) ≠ 0) /\ ((2 : Int) ≠ 0) /\ self ((i64 ((2 : Int) * a1)).tmod 2305843009213693951) (i64 (b1.tdiv 2)) sum) else Kx0 sum)
def L.b0_L1_R  : Nat -> Int -> Int -> Int -> (Int -> Prop) -> Prop
 | 0, _, _, _, _ => False
 | fu + 1, a1, b1, sum, Kx0 => L.b0_L1_b a1 b1 sum (fun a1 b1 sum => L.b0_L1_R fu a1 b1 sum Kx0) Kx0
structure L.b0_L1 (a1 b1 sum : Int) (Kx0 : Int -> Prop) : Prop where
 out : ∃ fu, L.b0_L1_R fu a1 b1 sum Kx0
def L.b0_L1_d : LoopD := { base := 0, vecs := [], flds := [], keep := [0, 1, 5], out := [5], rets := [4], rv := [], rbase := 0 }
def L.b0_L1_ss : List Sh := [.int .i64, .int .i64, .int .i64]
def L.b0_L1_os : List OSh := []
def L.b0_L1_G (vs : List V) (st : List Ob) (K : Ex -> St) : Prop := L.b0_L1 (gI (gA vs 0)) (gI (gA vs 1)) (gI (gA vs 2)) (fun q0_ => K (.exit 0) (bld [5] [.xi q0_] 0 21) [])
def L.b0_L1_F (vs : List V) (st : List Ob) (K : Ex -> St) : Prop := fitF L.b0_L1_ss L.b0_L1_os vs st (L.b0_L1_G vs st K)
theorem L.b0_L1_eq  (K : Ex -> St) : ∀ (fu : Nat) (a1 : Int) (b1 : Int) (sum : Int), L.b0_L1_R fu a1 b1 sum (fun q0_ => K (.exit 0) (bld [5] [.xi q0_] 0 21) []) = iterL (stepL (L.ex L.Γ_b0 L.Δ_b0 .leaf (sub [true, true, false, false, false] (codeOf Try.f38))) 0 L.b0_L1_d K) fu (bld L.b0_L1_d.keep [.xi a1, .xi b1, .xi sum] 0 21) [] := by
 intro fu
 induction fu with
 | zero => intros; rfl
 | succ fu ih =>
  intro a1 b1 sum
  have e : (fun a1 b1 sum => L.b0_L1_R fu a1 b1 sum (fun q0_ => K (.exit 0) (bld [5] [.xi q0_] 0 21) [])) = fun a1 b1 sum => iterL (stepL (L.ex L.Γ_b0 L.Δ_b0 .leaf (sub [true, true, false, false, false] (codeOf Try.f38))) 0 L.b0_L1_d K) fu (bld L.b0_L1_d.keep [.xi a1, .xi b1, .xi sum] 0 21) [] := by
   funext a1 b1 sum; exact ih a1 b1 sum
  show L.b0_L1_b a1 b1 sum (fun a1 b1 sum => L.b0_L1_R fu a1 b1 sum (fun q0_ => K (.exit 0) (bld [5] [.xi q0_] 0 21) [])) (fun q0_ => K (.exit 0) (bld [5] [.xi q0_] 0 21) []) = _
  rw [e]
  kernel_rfl
theorem L.b0_L1_imp (vs : List V) (st : List Ob) (K : Ex -> St) (h : L.b0_L1_G vs st K) : ∃ fu, iterL (stepL (L.ex L.Γ_b0 L.Δ_b0 .leaf (sub [true, true, false, false, false] (codeOf Try.f38))) 0 L.b0_L1_d K) fu (bld L.b0_L1_d.keep (mkL L.b0_L1_ss 0 vs) 0 21) (mkOs L.b0_L1_os 0 st) :=
 exMap (fun fu h => @Eq.mp _ _ (Eq.trans (L.b0_L1_eq  K fu (gI (gA vs 0)) (gI (gA vs 1)) (gI (gA vs 2))) (by kernel_rfl)) h) (L.b0_L1.out h)
theorem L.b0_L1_ok : AnnOk L.pg (CC L.pg L.Γ_b0 L.Δ_b0) (drawD L.pg L.Γ_b0 L.Δ_b0) 0 (.lift L.b0_L1_d 21 L.b0_L1_F) (.loop (sub [true, true, false, false, false] (codeOf Try.f38))) :=
 lift_ok (an := .leaf) (ss := L.b0_L1_ss) (os := L.b0_L1_os) (G := L.b0_L1_G) rfl (L.lb rfl) L.al (L.b0_L1_imp)
def L.b0_B (a b : Int) (K : Int -> Prop) : Prop :=
 L.b0_L1 a b 0 (fun sum => K sum)
structure L.b0 (a b : Int) (K : Int -> Prop) : Prop where
 out : L.b0_B a b K
def L.b0_ss : List Sh := [.int .i64, .int .i64]
def L.b0_G (vs : List V) (K : V -> List Ob -> Prop) : Prop := L.b0 (gI (gA vs 0)) (gI (gA vs 1)) (fun r0 => K (.xi r0) [])
def L.b0_S : SemF := fun args K => argF L.b0_ss args fun a => L.b0_G a K
noncomputable abbrev L.b0_N : SemF := run L.pg L.Γ_b0 L.Δ_b0 (.node .leaf (.node .leaf (.node (.lift L.b0_L1_d 21 L.b0_L1_F) .leaf))) .any Try.f38
theorem L.b0_eq (a b : Int) (K : V -> List Ob -> Prop) : L.b0_N [.xi a, .xi b] K = L.b0_B a b (fun r0 => K (.xi r0) []) := by
 kernel_rfl
theorem L.b0_imp (vs : List V) (K : V -> List Ob -> Prop) : Imp (L.b0_G vs K) (L.b0_N (mkL L.b0_ss 0 vs) K) :=
 Imp.of (Eq.trans (b := L.b0_N [.xi (gI (gA vs 0)), .xi (gI (gA vs 1))] K) (by kernel_rfl) (L.b0_eq (gI (gA vs 0)) (gI (gA vs 1)) K)) fun h => (L.b0.out h)
theorem L.b0_ok : SoundFn L.pg 38 L.b0_S :=
 fn_ok (sem := L.b0_N) (ss := L.b0_ss) (G := L.b0_G) (run_ok L.Γ_b0_ok L.Δ_b0_ok Try.func38 (ann := (.node .leaf (.node .leaf (.node (.lift L.b0_L1_d 21 L.b0_L1_F) .leaf)))) ⟨L.al, ⟨L.al, ⟨L.b0_L1_ok, L.al⟩⟩⟩) L.b0_imp
def L.Γ_c2 : Ctx := ctxC L.Γ_b0 38 L.b0_S
theorem L.Γ_c2_ok : SoundG L.pg L.Γ_c2 := ctxC_ok L.Γ_b0_ok L.b0_ok
def L.Δ_c2 : CtxO := L.Δ_b0
theorem L.Δ_c2_ok : SoundGO L.pg L.Δ_c2 := L.Δ_b0_ok
def L.c2_B (a b : Int) (K : Int -> Prop) : Prop :=
 L.b0 a 1000003 (fun r => L.b0 b 31 (fun r1 => ((2305843009213693951 : Int) ≠ 0) /\ K ((i64 ((i64 (r + r1)) + 7)).tmod 2305843009213693951)))
structure L.c2 (a b : Int) (K : Int -> Prop) : Prop where
 out : L.c2_B a b K
def L.c2_ss : List Sh := [.int .i64, .int .i64]
def L.c2_G (vs : List V) (K : V -> List Ob -> Prop) : Prop := L.c2 (gI (gA vs 0)) (gI (gA vs 1)) (fun r0 => K (.xi r0) [])
def L.c2_S : SemF := fun args K => argF L.c2_ss args fun a => L.c2_G a K
noncomputable abbrev L.c2_N : SemF := run L.pg L.Γ_c2 L.Δ_c2 .leaf .any Try.f25
theorem L.c2_eq (a b : Int) (K : V -> List Ob -> Prop) : L.c2_N [.xi a, .xi b] K = L.c2_B a b (fun r0 => K (.xi r0) []) := by
 kernel_rfl
theorem L.c2_imp (vs : List V) (K : V -> List Ob -> Prop) : Imp (L.c2_G vs K) (L.c2_N (mkL L.c2_ss 0 vs) K) :=
 Imp.of (Eq.trans (b := L.c2_N [.xi (gI (gA vs 0)), .xi (gI (gA vs 1))] K) (by kernel_rfl) (L.c2_eq (gI (gA vs 0)) (gI (gA vs 1)) K)) fun h => (L.c2.out h)
theorem L.c2_ok : SoundFn L.pg 25 L.c2_S :=
 fn_ok (sem := L.c2_N) (ss := L.c2_ss) (G := L.c2_G) (run_ok L.Γ_c2_ok L.Δ_c2_ok Try.func25 (ann := .leaf) L.al) L.c2_imp
def L.Γ_a3 : Ctx := ctxC L.Γ_c2 25 L.c2_S
theorem L.Γ_a3_ok : SoundG L.pg L.Γ_a3 := ctxC_ok L.Γ_c2_ok L.c2_ok
def L.Δ_a3 : CtxO := L.Δ_c2
theorem L.Δ_a3_ok : SoundGO L.pg L.Δ_a3 := L.Δ_c2_ok
def L.a3_L1_b (a1 b1 : (List Int)) (i_ : Int) (self : Int -> Prop) (Kx0 : Prop) (Kr : Bool -> Prop) : Prop :=
 (bif (decide (i_ < (a1.length : Int))) then (inB i_ a1.length) /\ (inB i_ b1.length) /\ (bif ((a1.getD i_.toNat 0) != (b1.getD i_.toNat 0)) then Kr false else self (i64 (i_ + 1))) else Kx0)
def L.a3_L1_R (a1 b1 : (List Int)) : Nat -> Int -> (Prop) -> (Bool -> Prop) -> Prop
 | 0, _, _, _ => False
 | fu + 1, i_, Kx0, Kr => L.a3_L1_b a1 b1 i_ (fun i_ => L.a3_L1_R a1 b1 fu i_ Kx0 Kr) Kx0 Kr
structure L.a3_L1 (a1 b1 : (List Int)) (i_ : Int) (Kx0 : Prop) (Kr : Bool -> Prop) : Prop where
 out : ∃ fu, L.a3_L1_R a1 b1 fu i_ Kx0 Kr
def L.a3_L1_d : LoopD := { base := 0, vecs := [], flds := [], keep := [0, 1, 5], out := [], rets := [4], rv := [], rbase := 0 }
def L.a3_L1_ss : List Sh := [.ro (.int .i64), .ro (.int .i64), .int .i64]
def L.a3_L1_os : List OSh := []
def L.a3_L1_G (vs : List V) (st : List Ob) (K : Ex -> St) : Prop := L.a3_L1 (gR (.int .i64) (gA vs 0)) (gR (.int .i64) (gA vs 1)) (gI (gA vs 2)) (K (.exit 0) (bld [] [] 0 26) []) (fun q0_ => K .ret (bld [4] [.x (.bool q0_)] 0 26) [])
def L.a3_L1_F (vs : List V) (st : List Ob) (K : Ex -> St) : Prop := fitF L.a3_L1_ss L.a3_L1_os vs st (L.a3_L1_G vs st K)
theorem L.a3_L1_eq (a1 b1 : (List Int)) (K : Ex -> St) : ∀ (fu : Nat) (i_ : Int), L.a3_L1_R a1 b1 fu i_ (K (.exit 0) (bld [] [] 0 26) []) (fun q0_ => K .ret (bld [4] [.x (.bool q0_)] 0 26) []) = iterL (stepL (L.ex L.Γ_a3 L.Δ_a3 .leaf (sub [true, true, false, true, false, false] (codeOf Try.f11))) 0 L.a3_L1_d K) fu (bld L.a3_L1_d.keep [.ro (.int .i64) a1, .ro (.int .i64) b1, .xi i_] 0 26) [] := by
 intro fu
 induction fu with
 | zero => intros; rfl
 | succ fu ih =>
  intro i_
  have e : (fun i_ => L.a3_L1_R a1 b1 fu i_ (K (.exit 0) (bld [] [] 0 26) []) (fun q0_ => K .ret (bld [4] [.x (.bool q0_)] 0 26) [])) = fun i_ => iterL (stepL (L.ex L.Γ_a3 L.Δ_a3 .leaf (sub [true, true, false, true, false, false] (codeOf Try.f11))) 0 L.a3_L1_d K) fu (bld L.a3_L1_d.keep [.ro (.int .i64) a1, .ro (.int .i64) b1, .xi i_] 0 26) [] := by
   funext i_; exact ih i_
  show L.a3_L1_b a1 b1 i_ (fun i_ => L.a3_L1_R a1 b1 fu i_ (K (.exit 0) (bld [] [] 0 26) []) (fun q0_ => K .ret (bld [4] [.x (.bool q0_)] 0 26) [])) (K (.exit 0) (bld [] [] 0 26) []) (fun q0_ => K .ret (bld [4] [.x (.bool q0_)] 0 26) []) = _
  rw [e]
  kernel_rfl
theorem L.a3_L1_imp (vs : List V) (st : List Ob) (K : Ex -> St) (h : L.a3_L1_G vs st K) : ∃ fu, iterL (stepL (L.ex L.Γ_a3 L.Δ_a3 .leaf (sub [true, true, false, true, false, false] (codeOf Try.f11))) 0 L.a3_L1_d K) fu (bld L.a3_L1_d.keep (mkL L.a3_L1_ss 0 vs) 0 26) (mkOs L.a3_L1_os 0 st) :=
 exMap (fun fu h => @Eq.mp _ _ (Eq.trans (L.a3_L1_eq (gR (.int .i64) (gA vs 0)) (gR (.int .i64) (gA vs 1)) K fu (gI (gA vs 2))) (by kernel_rfl)) h) (L.a3_L1.out h)
theorem L.a3_L1_ok : AnnOk L.pg (CC L.pg L.Γ_a3 L.Δ_a3) (drawD L.pg L.Γ_a3 L.Δ_a3) 0 (.lift L.a3_L1_d 26 L.a3_L1_F) (.loop (sub [true, true, false, true, false, false] (codeOf Try.f11))) :=
 lift_ok (an := .leaf) (ss := L.a3_L1_ss) (os := L.a3_L1_os) (G := L.a3_L1_G) rfl (L.lb rfl) L.al (L.a3_L1_imp)
def L.a3_B (a b : (List Int)) (K : Bool -> Prop) : Prop :=
 (bif ((a.length : Int) != (b.length : Int)) then K false else L.a3_L1 a b 0 (K true) (fun r => K r))
structure L.a3 (a b : (List Int)) (K : Bool -> Prop) : Prop where
 out : L.a3_B a b K
def L.a3_ss : List Sh := [.ro (.int .i64), .ro (.int .i64)]
def L.a3_G (vs : List V) (K : V -> List Ob -> Prop) : Prop := L.a3 (gR (.int .i64) (gA vs 0)) (gR (.int .i64) (gA vs 1)) (fun r0 => K (.x (.bool r0)) [])
def L.a3_S : SemF := fun args K => argF L.a3_ss args fun a => L.a3_G a K
noncomputable abbrev L.a3_N : SemF := run L.pg L.Γ_a3 L.Δ_a3 (.node .leaf (.node .leaf (.node (.node .leaf (.lift L.a3_L1_d 26 L.a3_L1_F)) .leaf))) .any Try.f11
theorem L.a3_eq (a b : (List Int)) (K : V -> List Ob -> Prop) : L.a3_N [.ro (.int .i64) a, .ro (.int .i64) b] K = L.a3_B a b (fun r0 => K (.x (.bool r0)) []) := by
 kernel_rfl
theorem L.a3_imp (vs : List V) (K : V -> List Ob -> Prop) : Imp (L.a3_G vs K) (L.a3_N (mkL L.a3_ss 0 vs) K) :=
 Imp.of (Eq.trans (b := L.a3_N [.ro (.int .i64) (gR (.int .i64) (gA vs 0)), .ro (.int .i64) (gR (.int .i64) (gA vs 1))] K) (by kernel_rfl) (L.a3_eq (gR (.int .i64) (gA vs 0)) (gR (.int .i64) (gA vs 1)) K)) fun h => (L.a3.out h)
theorem L.a3_ok : SoundFn L.pg 11 L.a3_S :=
 fn_ok (sem := L.a3_N) (ss := L.a3_ss) (G := L.a3_G) (run_ok L.Γ_a3_ok L.Δ_a3_ok Try.func11 (ann := (.node .leaf (.node .leaf (.node (.node .leaf (.lift L.a3_L1_d 26 L.a3_L1_F)) .leaf)))) ⟨L.al, ⟨L.al, ⟨⟨L.al, L.a3_L1_ok⟩, L.al⟩⟩⟩) L.a3_imp
def L.Γ_c4 : Ctx := ctxC L.Γ_a3 11 L.a3_S
theorem L.Γ_c4_ok : SoundG L.pg L.Γ_c4 := ctxC_ok L.Γ_a3_ok L.a3_ok
def L.Δ_c4 : CtxO := L.Δ_a3
theorem L.Δ_c4_ok : SoundGO L.pg L.Δ_c4 := L.Δ_a3_ok
def L.c4_B (K : Bool -> Prop) : Prop :=
 L.c0 ([([] : List Int), ([5] : List Int)] : List (List Int)) 2 (fun r rCode rIndex => L.b7 ([([5] : List Int), ([] : List Int)] : List (List Int)) 2 1 (fun r1 rCode1 rIndex1 => L.a6 ([([] : List Int), ([] : List Int), ([] : List Int)] : List (List Int)) 2 (fun r2 r3 rCode2 rIndex2 => (((((r.length : Int) == 2) == true) = true -> inB 0 r.length)) /\ ((((bif ((r.length : Int) == 2) then ((r.getD ((0 : Int).toNat) 0) == 0) else false) == true) = true -> inB 1 r.length)) /\ (bif okAll [((bif ((r.length : Int) == 2) then ((r.getD ((0 : Int).toNat) 0) == 0) else false), true)] then L.c2 0 5 (fun r4 => (bif okAll [((bif ((r.getD ((1 : Int).toNat) 0) == r4) then (r1 == 1) else false), true)] then L.a3 r2 ([0, 1, 0] : List Int) (fun r5 => K (bif (bif (bif (bif r5 then (r3 == 2) else false) then (rCode == 0) else false) then (rCode1 == 0) else false) then (rCode2 == 0) else false)) else K (bif (bif (bif (bif false then (r3 == 2) else false) then (rCode == 0) else false) then (rCode1 == 0) else false) then (rCode2 == 0) else false))) else (bif okAll [((bif false then (r1 == 1) else false), true)] then L.a3 r2 ([0, 1, 0] : List Int) (fun r6 => K (bif (bif (bif (bif r6 then (r3 == 2) else false) then (rCode == 0) else false) then (rCode1 == 0) else false) then (rCode2 == 0) else false)) else K (bif (bif (bif (bif false then (r3 == 2) else false) then (rCode == 0) else false) then (rCode1 == 0) else false) then (rCode2 == 0) else false))))))
structure L.c4 (K : Bool -> Prop) : Prop where
 out : L.c4_B K
def L.c4_ss : List Sh := []
def L.c4_G (vs : List V) (K : V -> List Ob -> Prop) : Prop := L.c4 (fun r0 => K (.x (.bool r0)) [])
def L.c4_S : SemF := fun args K => argF L.c4_ss args fun a => L.c4_G a K
noncomputable abbrev L.c4_N : SemF := run L.pg L.Γ_c4 L.Δ_c4 .leaf .any Try.f10
theorem L.c4_eq (K : V -> List Ob -> Prop) : L.c4_N [] K = L.c4_B (fun r0 => K (.x (.bool r0)) []) := by
 kernel_rfl
theorem L.c4_imp (vs : List V) (K : V -> List Ob -> Prop) : Imp (L.c4_G vs K) (L.c4_N (mkL L.c4_ss 0 vs) K) :=
 Imp.of (Eq.trans (b := L.c4_N [] K) (by kernel_rfl) (L.c4_eq K)) fun h => (L.c4.out h)
theorem L.c4_ok : SoundFn L.pg 10 L.c4_S :=
 fn_ok (sem := L.c4_N) (ss := L.c4_ss) (G := L.c4_G) (run_ok L.Γ_c4_ok L.Δ_c4_ok Try.func10 (ann := .leaf) L.al) L.c4_imp
def L.Γ_b8 : Ctx := ctxC L.Γ_c4 10 L.c4_S
theorem L.Γ_b8_ok : SoundG L.pg L.Γ_b8 := ctxC_ok L.Γ_c4_ok L.c4_ok
def L.Δ_b8 : CtxO := L.Δ_c4
theorem L.Δ_b8_ok : SoundGO L.pg L.Δ_b8 := L.Δ_c4_ok
def L.b8_B (l : (List Int)) (rc : (List Int) -> (Int -> Prop) -> Prop) (K : Int -> Prop) : Prop :=
 (bif ((l.length : Int) == 0) then K 0 else (0 <= (i64 ((l.length : Int) - 1)) /\ (i64 ((l.length : Int) - 1)) <= l.length) /\ rc (l.take (i64 ((l.length : Int) - 1)).toNat) (fun r => (inB (i64 ((l.length : Int) - 1)) l.length) /\ L.c2 r (l.getD ((i64 ((l.length : Int) - 1)).toNat) 0) (fun r1 => K r1)))
def L.b8_R : Nat -> (List Int) -> (Int -> Prop) -> Prop
 | 0, _, _ => False
 | fu + 1, l, K => L.b8_B l (L.b8_R fu) K
structure L.b8 (l : (List Int)) (K : Int -> Prop) : Prop where
 out : ∃ fu, L.b8_R fu l K
def L.b8_ss : List Sh := [.ro (.int .i64)]
def L.b8_G (vs : List V) (K : V -> List Ob -> Prop) : Prop := L.b8 (gR (.int .i64) (gA vs 0)) (fun r0 => K (.xi r0) [])
def L.b8_S : SemF := fun args K => argF L.b8_ss args fun a => L.b8_G a K
def L.b8_GR (fu_ : Nat) (vs : List V) (K : V -> List Ob -> Prop) : Prop := L.b8_R fu_ (gR (.int .i64) (gA vs 0)) (fun r0 => K (.xi r0) [])
def L.b8_SR (fu_ : Nat) : SemF := fun args K => argF L.b8_ss args fun a => L.b8_GR fu_ a K
def L.ΓR_ref8_Fold (fu_ : Nat) : Ctx := ctxC L.Γ_b8 18 (L.b8_SR fu_)
theorem L.b8_eq (fu_ : Nat) (l : (List Int)) (K : V -> List Ob -> Prop) : run L.pg (L.ΓR_ref8_Fold fu_) L.Δ_b8 .leaf .any Try.f18 [.ro (.int .i64) l] K = L.b8_B l (L.b8_R fu_) (fun r0 => K (.xi r0) []) := by
 kernel_rfl
theorem L.b8_imp (fu_ : Nat) (vs : List V) (K : V -> List Ob -> Prop) : Imp (L.b8_GR (fu_ + 1) vs K) (run L.pg (L.ΓR_ref8_Fold fu_) L.Δ_b8 .leaf .any Try.f18 (mkL L.b8_ss 0 vs) K) :=
 Imp.of (Eq.trans (b := run L.pg (L.ΓR_ref8_Fold fu_) L.Δ_b8 .leaf .any Try.f18 [.ro (.int .i64) (gR (.int .i64) (gA vs 0))] K) (by kernel_rfl) (L.b8_eq fu_ (gR (.int .i64) (gA vs 0)) K)) fun h => h
theorem L.b8_okR : ∀ fu_, SoundFn L.pg 18 (L.b8_SR fu_)
 | 0 => fn_none fun _ _ h => h
 | fu_ + 1 => fn_ok (sem := run L.pg (L.ΓR_ref8_Fold fu_) L.Δ_b8 .leaf .any Try.f18) (ss := L.b8_ss) (G := L.b8_GR (fu_ + 1)) (run_ok (ctxC_ok L.Γ_b8_ok (L.b8_okR fu_)) L.Δ_b8_ok Try.func18 (ann := .leaf) L.al) (L.b8_imp fu_)
theorem L.b8_ok : SoundFn L.pg 18 L.b8_S :=
 fn_ex (GR := L.b8_GR) (G := L.b8_G) L.b8_okR fun _ _ h => h.out
def L.Γ_a7 : Ctx := ctxC L.Γ_b8 18 L.b8_S
theorem L.Γ_a7_ok : SoundG L.pg L.Γ_a7 := ctxC_ok L.Γ_b8_ok L.b8_ok
def L.Δ_a7 : CtxO := L.Δ_b8
theorem L.Δ_a7_ok : SoundGO L.pg L.Δ_a7 := L.Δ_b8_ok
def L.a7_L1_b (y1 : L.yb) (assigned1 : (List Int)) (worker1 sum i_ : Int) (self : Int -> Int -> Prop) (Kx0 : Int -> Prop) : Prop :=
 (bif (decide (i_ < (assigned1.length : Int))) then (inB i_ assigned1.length) /\ (bif ((assigned1.getD i_.toNat 0) == worker1) then (inB i_ y1.length) /\ self (i64 (sum + (i64 (((y1.getD i_.toNat []).length : Int) + 1)))) (i64 (i_ + 1)) else self sum (i64 (i_ + 1))) else Kx0 sum)
def L.a7_L1_R (y1 : L.yb) (assigned1 : (List Int)) (worker1 : Int) : Nat -> Int -> Int -> (Int -> Prop) -> Prop
 | 0, _, _, _ => False
 | fu + 1, sum, i_, Kx0 => L.a7_L1_b y1 assigned1 worker1 sum i_ (fun sum i_ => L.a7_L1_R y1 assigned1 worker1 fu sum i_ Kx0) Kx0
structure L.a7_L1 (y1 : L.yb) (assigned1 : (List Int)) (worker1 sum i_ : Int) (Kx0 : Int -> Prop) : Prop where
 out : ∃ fu, L.a7_L1_R y1 assigned1 worker1 fu sum i_ Kx0
def L.a7_L1_d : LoopD := { base := 0, vecs := [], flds := [], keep := [0, 1, 2, 7, 8], out := [7], rets := [6], rv := [], rbase := 0 }
def L.a7_L1_ss : List Sh := [.ro L.ya, .ro (.int .i64), .int .i64, .int .i64, .int .i64]
def L.a7_L1_os : List OSh := []
def L.a7_L1_G (vs : List V) (st : List Ob) (K : Ex -> St) : Prop := L.a7_L1 (gR L.ya (gA vs 0)) (gR (.int .i64) (gA vs 1)) (gI (gA vs 2)) (gI (gA vs 3)) (gI (gA vs 4)) (fun q0_ => K (.exit 0) (bld [7] [.xi q0_] 0 30) [])
def L.a7_L1_F (vs : List V) (st : List Ob) (K : Ex -> St) : Prop := fitF L.a7_L1_ss L.a7_L1_os vs st (L.a7_L1_G vs st K)
theorem L.a7_L1_eq (y1 : L.yb) (assigned1 : (List Int)) (worker1 : Int) (K : Ex -> St) : ∀ (fu : Nat) (sum : Int) (i_ : Int), L.a7_L1_R y1 assigned1 worker1 fu sum i_ (fun q0_ => K (.exit 0) (bld [7] [.xi q0_] 0 30) []) = iterL (stepL (L.ex L.Γ_a7 L.Δ_a7 .leaf (sub [true, true, false, true, false, false] (codeOf Try.f21))) 0 L.a7_L1_d K) fu (bld L.a7_L1_d.keep [.ro L.ya y1, .ro (.int .i64) assigned1, .xi worker1, .xi sum, .xi i_] 0 30) [] := by
 intro fu
 induction fu with
 | zero => intros; rfl
 | succ fu ih =>
  intro sum i_
  have e : (fun sum i_ => L.a7_L1_R y1 assigned1 worker1 fu sum i_ (fun q0_ => K (.exit 0) (bld [7] [.xi q0_] 0 30) [])) = fun sum i_ => iterL (stepL (L.ex L.Γ_a7 L.Δ_a7 .leaf (sub [true, true, false, true, false, false] (codeOf Try.f21))) 0 L.a7_L1_d K) fu (bld L.a7_L1_d.keep [.ro L.ya y1, .ro (.int .i64) assigned1, .xi worker1, .xi sum, .xi i_] 0 30) [] := by
   funext sum i_; exact ih sum i_
  show L.a7_L1_b y1 assigned1 worker1 sum i_ (fun sum i_ => L.a7_L1_R y1 assigned1 worker1 fu sum i_ (fun q0_ => K (.exit 0) (bld [7] [.xi q0_] 0 30) [])) (fun q0_ => K (.exit 0) (bld [7] [.xi q0_] 0 30) []) = _
  rw [e]
  kernel_rfl
theorem L.a7_L1_imp (vs : List V) (st : List Ob) (K : Ex -> St) (h : L.a7_L1_G vs st K) : ∃ fu, iterL (stepL (L.ex L.Γ_a7 L.Δ_a7 .leaf (sub [true, true, false, true, false, false] (codeOf Try.f21))) 0 L.a7_L1_d K) fu (bld L.a7_L1_d.keep (mkL L.a7_L1_ss 0 vs) 0 30) (mkOs L.a7_L1_os 0 st) :=
 exMap (fun fu h => @Eq.mp _ _ (Eq.trans (L.a7_L1_eq (gR L.ya (gA vs 0)) (gR (.int .i64) (gA vs 1)) (gI (gA vs 2)) K fu (gI (gA vs 3)) (gI (gA vs 4))) (by kernel_rfl)) h) (L.a7_L1.out h)
theorem L.a7_L1_ok : AnnOk L.pg (CC L.pg L.Γ_a7 L.Δ_a7) (drawD L.pg L.Γ_a7 L.Δ_a7) 0 (.lift L.a7_L1_d 30 L.a7_L1_F) (.loop (sub [true, true, false, true, false, false] (codeOf Try.f21))) :=
 lift_ok (an := .leaf) (ss := L.a7_L1_ss) (os := L.a7_L1_os) (G := L.a7_L1_G) rfl (L.lb rfl) L.al (L.a7_L1_imp)
def L.a7_B (tk : L.yb) (assigned : (List Int)) (worker : Int) (K : Int -> Prop) : Prop :=
 L.a7_L1 tk assigned worker 0 0 (fun sum => K sum)
structure L.a7 (tk : L.yb) (assigned : (List Int)) (worker : Int) (K : Int -> Prop) : Prop where
 out : L.a7_B tk assigned worker K
def L.a7_ss : List Sh := [.ro L.ya, .ro (.int .i64), .int .i64]
def L.a7_G (vs : List V) (K : V -> List Ob -> Prop) : Prop := L.a7 (gR L.ya (gA vs 0)) (gR (.int .i64) (gA vs 1)) (gI (gA vs 2)) (fun r0 => K (.xi r0) [])
def L.a7_S : SemF := fun args K => argF L.a7_ss args fun a => L.a7_G a K
noncomputable abbrev L.a7_N : SemF := run L.pg L.Γ_a7 L.Δ_a7 (.node .leaf (.node .leaf (.node (.node .leaf (.lift L.a7_L1_d 30 L.a7_L1_F)) .leaf))) .any Try.f21
theorem L.a7_eq (tk : L.yb) (assigned : (List Int)) (worker : Int) (K : V -> List Ob -> Prop) : L.a7_N [.ro L.ya tk, .ro (.int .i64) assigned, .xi worker] K = L.a7_B tk assigned worker (fun r0 => K (.xi r0) []) := by
 kernel_rfl
theorem L.a7_imp (vs : List V) (K : V -> List Ob -> Prop) : Imp (L.a7_G vs K) (L.a7_N (mkL L.a7_ss 0 vs) K) :=
 Imp.of (Eq.trans (b := L.a7_N [.ro L.ya (gR L.ya (gA vs 0)), .ro (.int .i64) (gR (.int .i64) (gA vs 1)), .xi (gI (gA vs 2))] K) (by kernel_rfl) (L.a7_eq (gR L.ya (gA vs 0)) (gR (.int .i64) (gA vs 1)) (gI (gA vs 2)) K)) fun h => (L.a7.out h)
theorem L.a7_ok : SoundFn L.pg 21 L.a7_S :=
 fn_ok (sem := L.a7_N) (ss := L.a7_ss) (G := L.a7_G) (run_ok L.Γ_a7_ok L.Δ_a7_ok Try.func21 (ann := (.node .leaf (.node .leaf (.node (.node .leaf (.lift L.a7_L1_d 30 L.a7_L1_F)) .leaf)))) ⟨L.al, ⟨L.al, ⟨⟨L.al, L.a7_L1_ok⟩, L.al⟩⟩⟩) L.a7_imp
def L.Γ_a2 : Ctx := ctxC L.Γ_a7 21 L.a7_S
theorem L.Γ_a2_ok : SoundG L.pg L.Γ_a2 := ctxC_ok L.Γ_a7_ok L.a7_ok
def L.Δ_a2 : CtxO := L.Δ_a7
theorem L.Δ_a2_ok : SoundGO L.pg L.Δ_a2 := L.Δ_a7_ok
def L.a2_L2_b (y2 : L.yb) (out1 : (List Int)) (best w : Int) (self : Int -> Int -> Prop) (Kx2 : Int -> Prop) : Prop :=
 (bif (decide (w ≥ 0)) then L.a7 y2 out1 w (fun r => L.a7 y2 out1 best (fun r1 => (bif (decide (r <= r1)) then self w (i64 (w - 1)) else self best (i64 (w - 1))))) else Kx2 best)
def L.a2_L2_R (y2 : L.yb) (out1 : (List Int)) : Nat -> Int -> Int -> (Int -> Prop) -> Prop
 | 0, _, _, _ => False
 | fu + 1, best, w, Kx2 => L.a2_L2_b y2 out1 best w (fun best w => L.a2_L2_R y2 out1 fu best w Kx2) Kx2
structure L.a2_L2 (y2 : L.yb) (out1 : (List Int)) (best w : Int) (Kx2 : Int -> Prop) : Prop where
 out : ∃ fu, L.a2_L2_R y2 out1 fu best w Kx2
def L.a2_L2_d : LoopD := { base := 1, vecs := [], flds := [], keep := [0, 1, 5, 6, 7], out := [0, 1, 5, 6], rets := [4], rv := [], rbase := 0 }
def L.a2_L2_ss : List Sh := [.ro L.ya, .int .i64, .vec 0, .int .i64, .int .i64]
def L.a2_L2_os : List OSh := [.vec (.int .i64) true]
def L.a2_L2_G (vs : List V) (st : List Ob) (K : Ex -> St) : Prop := L.a2_L2 (gR L.ya (gA vs 0)) (oX (.int .i64) (gD st 0)) (gI (gA vs 3)) (gI (gA vs 4)) (fun q0_ => K (.exit 2) (bld [0, 1, 5, 6] [.ro L.ya (gR L.ya (gA vs 0)), .xi (gI (gA vs 1)), .vec 0, .xi q0_] 0 34) [.vec (.int .i64) 0 (oX (.int .i64) (gD st 0))])
def L.a2_L2_F (vs : List V) (st : List Ob) (K : Ex -> St) : Prop := fitF L.a2_L2_ss L.a2_L2_os vs st (L.a2_L2_G vs st K)
theorem L.a2_L2_eq (y2 : L.yb) (u2 : Int) (out1 : (List Int)) (K : Ex -> St) : ∀ (fu : Nat) (best : Int) (w : Int), L.a2_L2_R y2 out1 fu best w (fun q0_ => K (.exit 2) (bld [0, 1, 5, 6] [.ro L.ya y2, .xi u2, .vec 0, .xi q0_] 0 34) [.vec (.int .i64) 0 out1]) = iterL (stepL (L.ex L.Γ_a2 L.Δ_a2 .leaf (sub [true, true, false, false, false, true, false, true, false, true, false, false] (codeOf Try.f20))) 1 L.a2_L2_d K) fu (bld L.a2_L2_d.keep [.ro L.ya y2, .xi u2, .vec 0, .xi best, .xi w] 0 34) [.vec (.int .i64) 0 out1] := by
 intro fu
 induction fu with
 | zero => intros; rfl
 | succ fu ih =>
  intro best w
  have e : (fun best w => L.a2_L2_R y2 out1 fu best w (fun q0_ => K (.exit 2) (bld [0, 1, 5, 6] [.ro L.ya y2, .xi u2, .vec 0, .xi q0_] 0 34) [.vec (.int .i64) 0 out1])) = fun best w => iterL (stepL (L.ex L.Γ_a2 L.Δ_a2 .leaf (sub [true, true, false, false, false, true, false, true, false, true, false, false] (codeOf Try.f20))) 1 L.a2_L2_d K) fu (bld L.a2_L2_d.keep [.ro L.ya y2, .xi u2, .vec 0, .xi best, .xi w] 0 34) [.vec (.int .i64) 0 out1] := by
   funext best w; exact ih best w
  show L.a2_L2_b y2 out1 best w (fun best w => L.a2_L2_R y2 out1 fu best w (fun q0_ => K (.exit 2) (bld [0, 1, 5, 6] [.ro L.ya y2, .xi u2, .vec 0, .xi q0_] 0 34) [.vec (.int .i64) 0 out1])) (fun q0_ => K (.exit 2) (bld [0, 1, 5, 6] [.ro L.ya y2, .xi u2, .vec 0, .xi q0_] 0 34) [.vec (.int .i64) 0 out1]) = _
  rw [e]
  kernel_rfl
theorem L.a2_L2_imp (vs : List V) (st : List Ob) (K : Ex -> St) (h : L.a2_L2_G vs st K) : ∃ fu, iterL (stepL (L.ex L.Γ_a2 L.Δ_a2 .leaf (sub [true, true, false, false, false, true, false, true, false, true, false, false] (codeOf Try.f20))) 1 L.a2_L2_d K) fu (bld L.a2_L2_d.keep (mkL L.a2_L2_ss 0 vs) 0 34) (mkOs L.a2_L2_os 0 st) :=
 exMap (fun fu h => @Eq.mp _ _ (Eq.trans (L.a2_L2_eq (gR L.ya (gA vs 0)) (gI (gA vs 1)) (oX (.int .i64) (gD st 0)) K fu (gI (gA vs 3)) (gI (gA vs 4))) (by kernel_rfl)) h) (L.a2_L2.out h)
theorem L.a2_L2_ok : AnnOk L.pg (CC L.pg L.Γ_a2 L.Δ_a2) (drawD L.pg L.Γ_a2 L.Δ_a2) 0 (.lift L.a2_L2_d 34 L.a2_L2_F) (.loop (sub [true, true, false, false, false, true, false, true, false, true, false, false] (codeOf Try.f20))) :=
 lift_ok (an := .leaf) (ss := L.a2_L2_ss) (os := L.a2_L2_os) (G := L.a2_L2_G) rfl (L.lb rfl) L.al (L.a2_L2_imp)
def L.a2_L1_b (y1 : L.yb) (u1 : Int) (out : (List Int)) (self Kx0 : (List Int) -> Prop) : Prop :=
 (bif (decide ((out.length : Int) < (y1.length : Int))) then L.a2_L2 y1 out 0 (i64 (u1 - 1)) (fun best => (fits (out.length + ([best] : List Int).length)) /\ self (out ++ ([best] : List Int))) else Kx0 out)
def L.a2_L1_R (y1 : L.yb) (u1 : Int) : Nat -> (List Int) -> ((List Int) -> Prop) -> Prop
 | 0, _, _ => False
 | fu + 1, out, Kx0 => L.a2_L1_b y1 u1 out (fun out => L.a2_L1_R y1 u1 fu out Kx0) Kx0
structure L.a2_L1 (y1 : L.yb) (u1 : Int) (out : (List Int)) (Kx0 : (List Int) -> Prop) : Prop where
 out : ∃ fu, L.a2_L1_R y1 u1 fu out Kx0
def L.a2_L1_d : LoopD := { base := 0, vecs := [(5, .sl (.int .i64))], flds := [], keep := [0, 1, 5], out := [5], rets := [4], rv := [], rbase := 0 }
def L.a2_L1_ss : List Sh := [.ro L.ya, .int .i64, .vec 0]
def L.a2_L1_os : List OSh := [.vec (.int .i64) true]
def L.a2_L1_G (vs : List V) (st : List Ob) (K : Ex -> St) : Prop := L.a2_L1 (gR L.ya (gA vs 0)) (gI (gA vs 1)) (oX (.int .i64) (gD st 0)) (fun q0_ => K (.exit 0) (bld [5] [.vec 0] 0 34) [.vec (.int .i64) 0 q0_])
def L.a2_L1_F (vs : List V) (st : List Ob) (K : Ex -> St) : Prop := fitF L.a2_L1_ss L.a2_L1_os vs st (L.a2_L1_G vs st K)
theorem L.a2_L1_eq (y1 : L.yb) (u1 : Int) (K : Ex -> St) : ∀ (fu : Nat) (out : (List Int)), L.a2_L1_R y1 u1 fu out (fun q0_ => K (.exit 0) (bld [5] [.vec 0] 0 34) [.vec (.int .i64) 0 q0_]) = iterL (stepL (L.ex L.Γ_a2 L.Δ_a2 (.node .leaf (.node .leaf (.node (.node .leaf (.lift L.a2_L2_d 34 L.a2_L2_F)) .leaf))) (sub [true, true, false, false, false] (codeOf Try.f20))) 0 L.a2_L1_d K) fu (bld L.a2_L1_d.keep [.ro L.ya y1, .xi u1, .vec 0] 0 34) [.vec (.int .i64) 0 out] := by
 intro fu
 induction fu with
 | zero => intros; rfl
 | succ fu ih =>
  intro out
  have e : (fun out => L.a2_L1_R y1 u1 fu out (fun q0_ => K (.exit 0) (bld [5] [.vec 0] 0 34) [.vec (.int .i64) 0 q0_])) = fun out => iterL (stepL (L.ex L.Γ_a2 L.Δ_a2 (.node .leaf (.node .leaf (.node (.node .leaf (.lift L.a2_L2_d 34 L.a2_L2_F)) .leaf))) (sub [true, true, false, false, false] (codeOf Try.f20))) 0 L.a2_L1_d K) fu (bld L.a2_L1_d.keep [.ro L.ya y1, .xi u1, .vec 0] 0 34) [.vec (.int .i64) 0 out] := by
   funext out; exact ih out
  show L.a2_L1_b y1 u1 out (fun out => L.a2_L1_R y1 u1 fu out (fun q0_ => K (.exit 0) (bld [5] [.vec 0] 0 34) [.vec (.int .i64) 0 q0_])) (fun q0_ => K (.exit 0) (bld [5] [.vec 0] 0 34) [.vec (.int .i64) 0 q0_]) = _
  rw [e]
  kernel_rfl
theorem L.a2_L1_imp (vs : List V) (st : List Ob) (K : Ex -> St) (h : L.a2_L1_G vs st K) : ∃ fu, iterL (stepL (L.ex L.Γ_a2 L.Δ_a2 (.node .leaf (.node .leaf (.node (.node .leaf (.lift L.a2_L2_d 34 L.a2_L2_F)) .leaf))) (sub [true, true, false, false, false] (codeOf Try.f20))) 0 L.a2_L1_d K) fu (bld L.a2_L1_d.keep (mkL L.a2_L1_ss 0 vs) 0 34) (mkOs L.a2_L1_os 0 st) :=
 exMap (fun fu h => @Eq.mp _ _ (Eq.trans (L.a2_L1_eq (gR L.ya (gA vs 0)) (gI (gA vs 1)) K fu (oX (.int .i64) (gD st 0))) (by kernel_rfl)) h) (L.a2_L1.out h)
theorem L.a2_L1_ok : AnnOk L.pg (CC L.pg L.Γ_a2 L.Δ_a2) (drawD L.pg L.Γ_a2 L.Δ_a2) 0 (.lift L.a2_L1_d 34 L.a2_L1_F) (.loop (sub [true, true, false, false, false] (codeOf Try.f20))) :=
 lift_ok (an := (.node .leaf (.node .leaf (.node (.node .leaf (.lift L.a2_L2_d 34 L.a2_L2_F)) .leaf)))) (ss := L.a2_L1_ss) (os := L.a2_L1_os) (G := L.a2_L1_G) rfl (L.lb rfl) ⟨L.al, ⟨L.al, ⟨⟨L.al, L.a2_L2_ok⟩, L.al⟩⟩⟩ (L.a2_L1_imp)
def L.a2_B (tk : L.yb) (ws : Int) (K : (List Int) -> Prop) : Prop :=
 L.a2_L1 tk ws ([] : List Int) (fun out => K out)
structure L.a2 (tk : L.yb) (ws : Int) (K : (List Int) -> Prop) : Prop where
 out : L.a2_B tk ws K
def L.a2_ss : List Sh := [.ro L.ya, .int .i64]
def L.a2_G (vs : List V) (K : V -> List Ob -> Prop) : Prop := L.a2 (gR L.ya (gA vs 0)) (gI (gA vs 1)) (fun r0 => K (.vec 0) [.vec (.int .i64) 0 r0])
def L.a2_S : SemF := fun args K => argF L.a2_ss args fun a => L.a2_G a K
noncomputable abbrev L.a2_N : SemF := run L.pg L.Γ_a2 L.Δ_a2 (.node .leaf (.node .leaf (.node (.lift L.a2_L1_d 34 L.a2_L1_F) .leaf))) (.sl (.int .i64)) Try.f20
theorem L.a2_eq (tk : L.yb) (ws : Int) (K : V -> List Ob -> Prop) : L.a2_N [.ro L.ya tk, .xi ws] K = L.a2_B tk ws (fun r0 => K (.vec 0) [.vec (.int .i64) 0 r0]) := by
 kernel_rfl
theorem L.a2_imp (vs : List V) (K : V -> List Ob -> Prop) : Imp (L.a2_G vs K) (L.a2_N (mkL L.a2_ss 0 vs) K) :=
 Imp.of (Eq.trans (b := L.a2_N [.ro L.ya (gR L.ya (gA vs 0)), .xi (gI (gA vs 1))] K) (by kernel_rfl) (L.a2_eq (gR L.ya (gA vs 0)) (gI (gA vs 1)) K)) fun h => (L.a2.out h)
theorem L.a2_ok : SoundFn L.pg 20 L.a2_S :=
 fn_ok (sem := L.a2_N) (ss := L.a2_ss) (G := L.a2_G) (run_ok L.Γ_a2_ok L.Δ_a2_ok Try.func20 (ann := (.node .leaf (.node .leaf (.node (.lift L.a2_L1_d 34 L.a2_L1_F) .leaf)))) ⟨L.al, ⟨L.al, ⟨L.a2_L1_ok, L.al⟩⟩⟩) L.a2_imp
def L.Γ_a0 : Ctx := ctxC L.Γ_a2 20 L.a2_S
theorem L.Γ_a0_ok : SoundG L.pg L.Γ_a0 := ctxC_ok L.Γ_a2_ok L.a2_ok
def L.Δ_a0 : CtxO := L.Δ_a2
theorem L.Δ_a0_ok : SoundGO L.pg L.Δ_a0 := L.Δ_a2_ok
def L.a0_L1_b (y2 : L.yb) (limit2 first i_ : Int) (want : (List Int)) (self : Int -> Int -> (List Int) -> Prop) (Kx0 : Int -> (List Int) -> Prop) : Prop :=
 (bif (decide (i_ < (y2.length : Int))) then (inB i_ y2.length) /\ L.b8 (y2.getD i_.toNat []) (fun r5 => (fits (want.length + ([r5] : List Int).length)) /\ ((((decide (first < 0)) == true) = true -> inB i_ (want ++ ([r5] : List Int)).length)) /\ (bif (bif (decide (first < 0)) then (decide (((want ++ ([r5] : List Int)).getD i_.toNat 0) < limit2)) else false) then self i_ (i64 (i_ + 1)) (want ++ ([r5] : List Int)) else self first (i64 (i_ + 1)) (want ++ ([r5] : List Int)))) else Kx0 first want)
def L.a0_L1_R (y2 : L.yb) (limit2 : Int) : Nat -> Int -> Int -> (List Int) -> (Int -> (List Int) -> Prop) -> Prop
 | 0, _, _, _, _ => False
 | fu + 1, first, i_, want, Kx0 => L.a0_L1_b y2 limit2 first i_ want (fun first i_ want => L.a0_L1_R y2 limit2 fu first i_ want Kx0) Kx0
structure L.a0_L1 (y2 : L.yb) (limit2 first i_ : Int) (want : (List Int)) (Kx0 : Int -> (List Int) -> Prop) : Prop where
 out : ∃ fu, L.a0_L1_R y2 limit2 fu first i_ want Kx0
def L.a0_L1_d : LoopD := { base := 7, vecs := [(17, .sl (.int .i64))], flds := [], keep := [0, 1, 2, 8, 9, 10, 11, 12, 13, 14, 15, 16, 17, 18, 19], out := [0, 1, 2, 8, 9, 10, 11, 12, 13, 14, 15, 16, 17, 18], rets := [6], rv := [], rbase := 7 }
def L.a0_L1_ss : List Sh := [.ro L.ya, .int .i64, .int .i64, .vec 1, .cl 2 0, .int .i64, .cl 3 0, .int .i64, .cl 4 0, .vec 5, .int .i64, .cl 6 0, .vec 7, .int .i64, .int .i64]
def L.a0_L1_os : List OSh := [.cells [.int .i64, .int .i64], .vec (.int .i64) true, .cells [.int .i64, .int .i64], .cells [.int .i64, .int .i64], .cells [.int .i64, .int .i64], .vec (.int .i64) true, .cells [.int .i64, .int .i64], .vec (.int .i64) true]
def L.a0_L1_G (vs : List V) (st : List Ob) (K : Ex -> St) : Prop := L.a0_L1 (gR L.ya (gA vs 0)) (gI (gA vs 2)) (gI (gA vs 13)) (gI (gA vs 14)) (oX (.int .i64) (gD st 7)) (fun q0_ q1_ => K (.exit 0) (bld [0, 1, 2, 8, 9, 10, 11, 12, 13, 14, 15, 16, 17, 18] [.ro L.ya (gR L.ya (gA vs 0)), .xi (gI (gA vs 1)), .xi (gI (gA vs 2)), .vec 1, .cl 2 0, .xi (gI (gA vs 5)), .cl 3 0, .xi (gI (gA vs 7)), .cl 4 0, .vec 5, .xi (gI (gA vs 10)), .cl 6 0, .vec 7, .xi q0_] 0 206) [.cells [.xi (cI st 0 0), .xi (cI st 0 1)], .vec (.int .i64) 0 (oX (.int .i64) (gD st 1)), .cells [.xi (cI st 2 0), .xi (cI st 2 1)], .cells [.xi (cI st 3 0), .xi (cI st 3 1)], .cells [.xi (cI st 4 0), .xi (cI st 4 1)], .vec (.int .i64) 0 (oX (.int .i64) (gD st 5)), .cells [.xi (cI st 6 0), .xi (cI st 6 1)], .vec (.int .i64) 0 q1_])
def L.a0_L1_F (vs : List V) (st : List Ob) (K : Ex -> St) : Prop := fitF L.a0_L1_ss L.a0_L1_os vs st (L.a0_L1_G vs st K)
theorem L.a0_L1_eq (y2 : L.yb) (u2 limit2 sum1 n1 end_1 m0 m01 : Int) (l1 : (List Int)) (e12 e13 e22 e23 e32 e33 : Int) (w1 : (List Int)) (e42 e43 : Int) (K : Ex -> St) : ∀ (fu : Nat) (first : Int) (i_ : Int) (want : (List Int)), L.a0_L1_R y2 limit2 fu first i_ want (fun q0_ q1_ => K (.exit 0) (bld [0, 1, 2, 8, 9, 10, 11, 12, 13, 14, 15, 16, 17, 18] [.ro L.ya y2, .xi u2, .xi limit2, .vec 1, .cl 2 0, .xi sum1, .cl 3 0, .xi n1, .cl 4 0, .vec 5, .xi end_1, .cl 6 0, .vec 7, .xi q0_] 0 206) [.cells [.xi m0, .xi m01], .vec (.int .i64) 0 l1, .cells [.xi e12, .xi e13], .cells [.xi e22, .xi e23], .cells [.xi e32, .xi e33], .vec (.int .i64) 0 w1, .cells [.xi e42, .xi e43], .vec (.int .i64) 0 q1_]) = iterL (stepL (L.ex L.Γ_a0 L.Δ_a0 .leaf (sub [true, true, true, true, true, true, true, true, true, true, false, true, false, false] (codeOf Try.f6))) 7 L.a0_L1_d K) fu (bld L.a0_L1_d.keep [.ro L.ya y2, .xi u2, .xi limit2, .vec 1, .cl 2 0, .xi sum1, .cl 3 0, .xi n1, .cl 4 0, .vec 5, .xi end_1, .cl 6 0, .vec 7, .xi first, .xi i_] 0 206) [.cells [.xi m0, .xi m01], .vec (.int .i64) 0 l1, .cells [.xi e12, .xi e13], .cells [.xi e22, .xi e23], .cells [.xi e32, .xi e33], .vec (.int .i64) 0 w1, .cells [.xi e42, .xi e43], .vec (.int .i64) 0 want] := by
 intro fu
 induction fu with
 | zero => intros; rfl
 | succ fu ih =>
  intro first i_ want
  have e : (fun first i_ want => L.a0_L1_R y2 limit2 fu first i_ want (fun q0_ q1_ => K (.exit 0) (bld [0, 1, 2, 8, 9, 10, 11, 12, 13, 14, 15, 16, 17, 18] [.ro L.ya y2, .xi u2, .xi limit2, .vec 1, .cl 2 0, .xi sum1, .cl 3 0, .xi n1, .cl 4 0, .vec 5, .xi end_1, .cl 6 0, .vec 7, .xi q0_] 0 206) [.cells [.xi m0, .xi m01], .vec (.int .i64) 0 l1, .cells [.xi e12, .xi e13], .cells [.xi e22, .xi e23], .cells [.xi e32, .xi e33], .vec (.int .i64) 0 w1, .cells [.xi e42, .xi e43], .vec (.int .i64) 0 q1_])) = fun first i_ want => iterL (stepL (L.ex L.Γ_a0 L.Δ_a0 .leaf (sub [true, true, true, true, true, true, true, true, true, true, false, true, false, false] (codeOf Try.f6))) 7 L.a0_L1_d K) fu (bld L.a0_L1_d.keep [.ro L.ya y2, .xi u2, .xi limit2, .vec 1, .cl 2 0, .xi sum1, .cl 3 0, .xi n1, .cl 4 0, .vec 5, .xi end_1, .cl 6 0, .vec 7, .xi first, .xi i_] 0 206) [.cells [.xi m0, .xi m01], .vec (.int .i64) 0 l1, .cells [.xi e12, .xi e13], .cells [.xi e22, .xi e23], .cells [.xi e32, .xi e33], .vec (.int .i64) 0 w1, .cells [.xi e42, .xi e43], .vec (.int .i64) 0 want] := by
   funext first i_ want; exact ih first i_ want
  show L.a0_L1_b y2 limit2 first i_ want (fun first i_ want => L.a0_L1_R y2 limit2 fu first i_ want (fun q0_ q1_ => K (.exit 0) (bld [0, 1, 2, 8, 9, 10, 11, 12, 13, 14, 15, 16, 17, 18] [.ro L.ya y2, .xi u2, .xi limit2, .vec 1, .cl 2 0, .xi sum1, .cl 3 0, .xi n1, .cl 4 0, .vec 5, .xi end_1, .cl 6 0, .vec 7, .xi q0_] 0 206) [.cells [.xi m0, .xi m01], .vec (.int .i64) 0 l1, .cells [.xi e12, .xi e13], .cells [.xi e22, .xi e23], .cells [.xi e32, .xi e33], .vec (.int .i64) 0 w1, .cells [.xi e42, .xi e43], .vec (.int .i64) 0 q1_])) (fun q0_ q1_ => K (.exit 0) (bld [0, 1, 2, 8, 9, 10, 11, 12, 13, 14, 15, 16, 17, 18] [.ro L.ya y2, .xi u2, .xi limit2, .vec 1, .cl 2 0, .xi sum1, .cl 3 0, .xi n1, .cl 4 0, .vec 5, .xi end_1, .cl 6 0, .vec 7, .xi q0_] 0 206) [.cells [.xi m0, .xi m01], .vec (.int .i64) 0 l1, .cells [.xi e12, .xi e13], .cells [.xi e22, .xi e23], .cells [.xi e32, .xi e33], .vec (.int .i64) 0 w1, .cells [.xi e42, .xi e43], .vec (.int .i64) 0 q1_]) = _
  rw [e]
  kernel_rfl
theorem L.a0_L1_imp (vs : List V) (st : List Ob) (K : Ex -> St) (h : L.a0_L1_G vs st K) : ∃ fu, iterL (stepL (L.ex L.Γ_a0 L.Δ_a0 .leaf (sub [true, true, true, true, true, true, true, true, true, true, false, true, false, false] (codeOf Try.f6))) 7 L.a0_L1_d K) fu (bld L.a0_L1_d.keep (mkL L.a0_L1_ss 0 vs) 0 206) (mkOs L.a0_L1_os 0 st) :=
 exMap (fun fu h => @Eq.mp _ _ (Eq.trans (L.a0_L1_eq (gR L.ya (gA vs 0)) (gI (gA vs 1)) (gI (gA vs 2)) (gI (gA vs 5)) (gI (gA vs 7)) (gI (gA vs 10)) (cI st 0 0) (cI st 0 1) (oX (.int .i64) (gD st 1)) (cI st 2 0) (cI st 2 1) (cI st 3 0) (cI st 3 1) (cI st 4 0) (cI st 4 1) (oX (.int .i64) (gD st 5)) (cI st 6 0) (cI st 6 1) K fu (gI (gA vs 13)) (gI (gA vs 14)) (oX (.int .i64) (gD st 7))) (by kernel_rfl)) h) (L.a0_L1.out h)
theorem L.a0_L1_ok : AnnOk L.pg (CC L.pg L.Γ_a0 L.Δ_a0) (drawD L.pg L.Γ_a0 L.Δ_a0) 0 (.lift L.a0_L1_d 206 L.a0_L1_F) (.loop (sub [true, true, true, true, true, true, true, true, true, true, false, true, false, false] (codeOf Try.f6))) :=
 lift_ok (an := .leaf) (ss := L.a0_L1_ss) (os := L.a0_L1_os) (G := L.a0_L1_G) rfl (L.lb rfl) L.al (L.a0_L1_imp)
def L.a0_L2_b (tasks4 : L.yb) (workers4 : Int) (assigned : (List Int)) (longest i_ : Int) (self : Int -> Int -> Prop) (Kx2 : Int -> Prop) : Prop :=
 (bif (decide (i_ < workers4)) then L.a7 tasks4 assigned i_ (fun r6 => self (amx longest r6) (i64 (i_ + 1))) else Kx2 longest)
def L.a0_L2_R (tasks4 : L.yb) (workers4 : Int) (assigned : (List Int)) : Nat -> Int -> Int -> (Int -> Prop) -> Prop
 | 0, _, _, _ => False
 | fu + 1, longest, i_, Kx2 => L.a0_L2_b tasks4 workers4 assigned longest i_ (fun longest i_ => L.a0_L2_R tasks4 workers4 assigned fu longest i_ Kx2) Kx2
structure L.a0_L2 (tasks4 : L.yb) (workers4 : Int) (assigned : (List Int)) (longest i_ : Int) (Kx2 : Int -> Prop) : Prop where
 out : ∃ fu, L.a0_L2_R tasks4 workers4 assigned fu longest i_ Kx2
def L.a0_L2_d : LoopD := { base := 9, vecs := [], flds := [], keep := [0, 1, 14, 15, 16, 20, 21, 22], out := [14, 15, 16, 20, 21], rets := [6], rv := [], rbase := 8 }
def L.a0_L2_ss : List Sh := [.ro L.ya, .int .i64, .vec 5, .int .i64, .cl 6 0, .vec 8, .int .i64, .int .i64]
def L.a0_L2_os : List OSh := [.cells [.int .i64, .int .i64], .vec (.int .i64) true, .cells [.int .i64, .int .i64], .cells [.int .i64, .int .i64], .cells [.int .i64, .int .i64], .vec (.int .i64) true, .cells [.int .i64, .int .i64], .vec (.int .i64) true, .vec (.int .i64) true]
def L.a0_L2_G (vs : List V) (st : List Ob) (K : Ex -> St) : Prop := L.a0_L2 (gR L.ya (gA vs 0)) (gI (gA vs 1)) (oX (.int .i64) (gD st 8)) (gI (gA vs 6)) (gI (gA vs 7)) (fun q0_ => K (.exit 2) (bld [14, 15, 16, 20, 21] [.vec 5, .xi (gI (gA vs 3)), .cl 6 0, .vec 8, .xi q0_] 0 206) [.cells [.xi (cI st 0 0), .xi (cI st 0 1)], .vec (.int .i64) 0 (oX (.int .i64) (gD st 1)), .cells [.xi (cI st 2 0), .xi (cI st 2 1)], .cells [.xi (cI st 3 0), .xi (cI st 3 1)], .cells [.xi (cI st 4 0), .xi (cI st 4 1)], .vec (.int .i64) 0 (oX (.int .i64) (gD st 5)), .cells [.xi (cI st 6 0), .xi (cI st 6 1)], .vec (.int .i64) 0 (oX (.int .i64) (gD st 7)), .vec (.int .i64) 0 (oX (.int .i64) (gD st 8))])
def L.a0_L2_F (vs : List V) (st : List Ob) (K : Ex -> St) : Prop := fitF L.a0_L2_ss L.a0_L2_os vs st (L.a0_L2_G vs st K)
theorem L.a0_L2_eq (tasks4 : L.yb) (workers4 end_3 m04 m05 : Int) (m12 : (List Int)) (m24 m25 m34 m35 m42 m43 : Int) (w3 : (List Int)) (e46 e47 : Int) (m72 assigned : (List Int)) (K : Ex -> St) : ∀ (fu : Nat) (longest : Int) (i_ : Int), L.a0_L2_R tasks4 workers4 assigned fu longest i_ (fun q0_ => K (.exit 2) (bld [14, 15, 16, 20, 21] [.vec 5, .xi end_3, .cl 6 0, .vec 8, .xi q0_] 0 206) [.cells [.xi m04, .xi m05], .vec (.int .i64) 0 m12, .cells [.xi m24, .xi m25], .cells [.xi m34, .xi m35], .cells [.xi m42, .xi m43], .vec (.int .i64) 0 w3, .cells [.xi e46, .xi e47], .vec (.int .i64) 0 m72, .vec (.int .i64) 0 assigned]) = iterL (stepL (L.ex L.Γ_a0 L.Δ_a0 .leaf (sub [true, true, true, true, true, true, true, true, true, true, true, true, true, true, true, false, true, false, false] (codeOf Try.f6))) 9 L.a0_L2_d K) fu (bld L.a0_L2_d.keep [.ro L.ya tasks4, .xi workers4, .vec 5, .xi end_3, .cl 6 0, .vec 8, .xi longest, .xi i_] 0 206) [.cells [.xi m04, .xi m05], .vec (.int .i64) 0 m12, .cells [.xi m24, .xi m25], .cells [.xi m34, .xi m35], .cells [.xi m42, .xi m43], .vec (.int .i64) 0 w3, .cells [.xi e46, .xi e47], .vec (.int .i64) 0 m72, .vec (.int .i64) 0 assigned] := by
 intro fu
 induction fu with
 | zero => intros; rfl
 | succ fu ih =>
  intro longest i_
  have e : (fun longest i_ => L.a0_L2_R tasks4 workers4 assigned fu longest i_ (fun q0_ => K (.exit 2) (bld [14, 15, 16, 20, 21] [.vec 5, .xi end_3, .cl 6 0, .vec 8, .xi q0_] 0 206) [.cells [.xi m04, .xi m05], .vec (.int .i64) 0 m12, .cells [.xi m24, .xi m25], .cells [.xi m34, .xi m35], .cells [.xi m42, .xi m43], .vec (.int .i64) 0 w3, .cells [.xi e46, .xi e47], .vec (.int .i64) 0 m72, .vec (.int .i64) 0 assigned])) = fun longest i_ => iterL (stepL (L.ex L.Γ_a0 L.Δ_a0 .leaf (sub [true, true, true, true, true, true, true, true, true, true, true, true, true, true, true, false, true, false, false] (codeOf Try.f6))) 9 L.a0_L2_d K) fu (bld L.a0_L2_d.keep [.ro L.ya tasks4, .xi workers4, .vec 5, .xi end_3, .cl 6 0, .vec 8, .xi longest, .xi i_] 0 206) [.cells [.xi m04, .xi m05], .vec (.int .i64) 0 m12, .cells [.xi m24, .xi m25], .cells [.xi m34, .xi m35], .cells [.xi m42, .xi m43], .vec (.int .i64) 0 w3, .cells [.xi e46, .xi e47], .vec (.int .i64) 0 m72, .vec (.int .i64) 0 assigned] := by
   funext longest i_; exact ih longest i_
  show L.a0_L2_b tasks4 workers4 assigned longest i_ (fun longest i_ => L.a0_L2_R tasks4 workers4 assigned fu longest i_ (fun q0_ => K (.exit 2) (bld [14, 15, 16, 20, 21] [.vec 5, .xi end_3, .cl 6 0, .vec 8, .xi q0_] 0 206) [.cells [.xi m04, .xi m05], .vec (.int .i64) 0 m12, .cells [.xi m24, .xi m25], .cells [.xi m34, .xi m35], .cells [.xi m42, .xi m43], .vec (.int .i64) 0 w3, .cells [.xi e46, .xi e47], .vec (.int .i64) 0 m72, .vec (.int .i64) 0 assigned])) (fun q0_ => K (.exit 2) (bld [14, 15, 16, 20, 21] [.vec 5, .xi end_3, .cl 6 0, .vec 8, .xi q0_] 0 206) [.cells [.xi m04, .xi m05], .vec (.int .i64) 0 m12, .cells [.xi m24, .xi m25], .cells [.xi m34, .xi m35], .cells [.xi m42, .xi m43], .vec (.int .i64) 0 w3, .cells [.xi e46, .xi e47], .vec (.int .i64) 0 m72, .vec (.int .i64) 0 assigned]) = _
  rw [e]
  kernel_rfl
theorem L.a0_L2_imp (vs : List V) (st : List Ob) (K : Ex -> St) (h : L.a0_L2_G vs st K) : ∃ fu, iterL (stepL (L.ex L.Γ_a0 L.Δ_a0 .leaf (sub [true, true, true, true, true, true, true, true, true, true, true, true, true, true, true, false, true, false, false] (codeOf Try.f6))) 9 L.a0_L2_d K) fu (bld L.a0_L2_d.keep (mkL L.a0_L2_ss 0 vs) 0 206) (mkOs L.a0_L2_os 0 st) :=
 exMap (fun fu h => @Eq.mp _ _ (Eq.trans (L.a0_L2_eq (gR L.ya (gA vs 0)) (gI (gA vs 1)) (gI (gA vs 3)) (cI st 0 0) (cI st 0 1) (oX (.int .i64) (gD st 1)) (cI st 2 0) (cI st 2 1) (cI st 3 0) (cI st 3 1) (cI st 4 0) (cI st 4 1) (oX (.int .i64) (gD st 5)) (cI st 6 0) (cI st 6 1) (oX (.int .i64) (gD st 7)) (oX (.int .i64) (gD st 8)) K fu (gI (gA vs 6)) (gI (gA vs 7))) (by kernel_rfl)) h) (L.a0_L2.out h)
theorem L.a0_L2_ok : AnnOk L.pg (CC L.pg L.Γ_a0 L.Δ_a0) (drawD L.pg L.Γ_a0 L.Δ_a0) 0 (.lift L.a0_L2_d 206 L.a0_L2_F) (.loop (sub [true, true, true, true, true, true, true, true, true, true, true, true, true, true, true, false, true, false, false] (codeOf Try.f6))) :=
 lift_ok (an := .leaf) (ss := L.a0_L2_ss) (os := L.a0_L2_os) (G := L.a0_L2_G) rfl (L.lb rfl) L.al (L.a0_L2_imp)
def L.a0_J3_B (tasks3 : L.yb) (workers3 end_2 : Int) (w2 : (List Int)) (e44 : Int) (Kr : Bool -> Prop) : Prop :=
 L.a2 tasks3 workers3 (fun r5 => L.a0_L2 tasks3 workers3 r5 0 0 (fun longest => (bif (e44 == 0) then L.a3 w2 r5 (fun r6 => Kr (bif (bif true then r6 else false) then (end_2 == longest) else false)) else Kr (bif false then (end_2 == longest) else false))))
structure L.a0_J3 (tasks3 : L.yb) (workers3 end_2 : Int) (w2 : (List Int)) (e44 : Int) (Kr : Bool -> Prop) : Prop where
 out : L.a0_J3_B tasks3 workers3 end_2 w2 e44 Kr
def L.a0_J3_d : CutD := { base := 8, vecs := [], flds := [], keep := [0, 1, 14, 15, 16], out := [], rets := [6], ovecs := [], oflds := [], rv := [], rbase := 8 }
def L.a0_J3_ss : List Sh := [.ro L.ya, .int .i64, .vec 5, .int .i64, .cl 6 0]
def L.a0_J3_os : List OSh := [.cells [.int .i64, .int .i64], .vec (.int .i64) true, .cells [.int .i64, .int .i64], .cells [.int .i64, .int .i64], .cells [.int .i64, .int .i64], .vec (.int .i64) true, .cells [.int .i64, .int .i64], .vec (.int .i64) true]
def L.a0_J3_G (vs : List V) (st : List Ob) (K : Ex -> St) : Prop := L.a0_J3 (gR L.ya (gA vs 0)) (gI (gA vs 1)) (gI (gA vs 3)) (oX (.int .i64) (gD st 5)) (cI st 6 0) (fun q0_ => K .ret (bld [6] [.x (.bool q0_)] 0 206) [.cells [.xi (cI st 0 0), .xi (cI st 0 1)], .vec (.int .i64) 0 (oX (.int .i64) (gD st 1)), .cells [.xi (cI st 2 0), .xi (cI st 2 1)], .cells [.xi (cI st 3 0), .xi (cI st 3 1)], .cells [.xi (cI st 4 0), .xi (cI st 4 1)], .vec (.int .i64) 0 (oX (.int .i64) (gD st 5)), .cells [.xi (cI st 6 0), .xi (cI st 6 1)], .vec (.int .i64) 0 (oX (.int .i64) (gD st 7))])
def L.a0_J3_F (vs : List V) (st : List Ob) (K : Ex -> St) : Prop := fitF L.a0_J3_ss L.a0_J3_os vs st (L.a0_J3_G vs st K)
theorem L.a0_J3_eq (tasks3 : L.yb) (workers3 end_2 m02 m03 : Int) (m11 : (List Int)) (m22 m23 m32 m33 m4 m41 : Int) (w2 : (List Int)) (e44 e45 : Int) (m71 : (List Int)) (K : Ex -> St) : L.a0_J3_B tasks3 workers3 end_2 w2 e44 (fun q0_ => K .ret (bld [6] [.x (.bool q0_)] 0 206) [.cells [.xi m02, .xi m03], .vec (.int .i64) 0 m11, .cells [.xi m22, .xi m23], .cells [.xi m32, .xi m33], .cells [.xi m4, .xi m41], .vec (.int .i64) 0 w2, .cells [.xi e44, .xi e45], .vec (.int .i64) 0 m71]) = L.ex L.Γ_a0 L.Δ_a0 (.node .leaf (.node .leaf (.node (.node .leaf (.lift L.a0_L2_d 206 L.a0_L2_F)) .leaf))) (sub [true, true, true, true, true, true, true, true, true, true, true, true, true] (codeOf Try.f6)) (bld L.a0_J3_d.keep [.ro L.ya tasks3, .xi workers3, .vec 5, .xi end_2, .cl 6 0] 0 206) [.cells [.xi m02, .xi m03], .vec (.int .i64) 0 m11, .cells [.xi m22, .xi m23], .cells [.xi m32, .xi m33], .cells [.xi m4, .xi m41], .vec (.int .i64) 0 w2, .cells [.xi e44, .xi e45], .vec (.int .i64) 0 m71] (cutK L.a0_J3_d K) := by
 kernel_rfl
theorem L.a0_J3_ok (vs : List V) (st : List Ob) (K : Ex -> St) : Imp (L.a0_J3_G vs st K) (L.ex L.Γ_a0 L.Δ_a0 (.node .leaf (.node .leaf (.node (.node .leaf (.lift L.a0_L2_d 206 L.a0_L2_F)) .leaf))) (sub [true, true, true, true, true, true, true, true, true, true, true, true, true] (codeOf Try.f6)) (bld L.a0_J3_d.keep (mkL L.a0_J3_ss 0 vs) 0 206) (mkOs L.a0_J3_os 0 st) (cutK L.a0_J3_d K)) :=
 Imp.of (Eq.trans (b := L.ex L.Γ_a0 L.Δ_a0 (.node .leaf (.node .leaf (.node (.node .leaf (.lift L.a0_L2_d 206 L.a0_L2_F)) .leaf))) (sub [true, true, true, true, true, true, true, true, true, true, true, true, true] (codeOf Try.f6)) (bld L.a0_J3_d.keep [.ro L.ya (gR L.ya (gA vs 0)), .xi (gI (gA vs 1)), .vec 5, .xi (gI (gA vs 3)), .cl 6 0] 0 206) [.cells [.xi (cI st 0 0), .xi (cI st 0 1)], .vec (.int .i64) 0 (oX (.int .i64) (gD st 1)), .cells [.xi (cI st 2 0), .xi (cI st 2 1)], .cells [.xi (cI st 3 0), .xi (cI st 3 1)], .cells [.xi (cI st 4 0), .xi (cI st 4 1)], .vec (.int .i64) 0 (oX (.int .i64) (gD st 5)), .cells [.xi (cI st 6 0), .xi (cI st 6 1)], .vec (.int .i64) 0 (oX (.int .i64) (gD st 7))] (cutK L.a0_J3_d K)) (by kernel_rfl) (Eq.symm (L.a0_J3_eq (gR L.ya (gA vs 0)) (gI (gA vs 1)) (gI (gA vs 3)) (cI st 0 0) (cI st 0 1) (oX (.int .i64) (gD st 1)) (cI st 2 0) (cI st 2 1) (cI st 3 0) (cI st 3 1) (cI st 4 0) (cI st 4 1) (oX (.int .i64) (gD st 5)) (cI st 6 0) (cI st 6 1) (oX (.int .i64) (gD st 7)) K))) fun h => (L.a0_J3.out h)
def L.a0_J2_B (y2 : L.yb) (u2 limit2 n1 end_1 first1 e32 e33 : Int) (w1 : (List Int)) (e42 : Int) (Kr : Bool -> Prop) : Prop :=
 (bif (bif (decide (limit2 < 0)) then true else (decide (limit2 > 2305843009213693951))) then L.b9 3 (-3) (fun rCode5 rIndex5 => (bif (bif (!((e32 == rCode5) && ((e33 == rIndex5) && true))) then true else (n1 != 0)) then Kr false else L.a0_J3 y2 u2 end_1 w1 e42 Kr)) else (bif (decide (first1 < 0)) then L.b9 6 (-4) (fun rCode6 rIndex6 => (bif (bif (!((e32 == rCode6) && ((e33 == rIndex6) && true))) then true else (n1 != 0)) then Kr false else L.a0_J3 y2 u2 end_1 w1 e42 Kr)) else (bif (bif (e32 != 0) then true else (n1 != first1)) then Kr false else L.a0_J3 y2 u2 end_1 w1 e42 Kr)))
structure L.a0_J2 (y2 : L.yb) (u2 limit2 n1 end_1 first1 e32 e33 : Int) (w1 : (List Int)) (e42 : Int) (Kr : Bool -> Prop) : Prop where
 out : L.a0_J2_B y2 u2 limit2 n1 end_1 first1 e32 e33 w1 e42 Kr
def L.a0_J2_d : CutD := { base := 8, vecs := [], flds := [], keep := [0, 1, 2, 12, 13, 14, 15, 16, 18], out := [], rets := [6], ovecs := [], oflds := [], rv := [], rbase := 7 }
def L.a0_J2_ss : List Sh := [.ro L.ya, .int .i64, .int .i64, .int .i64, .cl 4 0, .vec 5, .int .i64, .cl 6 0, .int .i64]
def L.a0_J2_os : List OSh := [.cells [.int .i64, .int .i64], .vec (.int .i64) true, .cells [.int .i64, .int .i64], .cells [.int .i64, .int .i64], .cells [.int .i64, .int .i64], .vec (.int .i64) true, .cells [.int .i64, .int .i64], .vec (.int .i64) true]
def L.a0_J2_G (vs : List V) (st : List Ob) (K : Ex -> St) : Prop := L.a0_J2 (gR L.ya (gA vs 0)) (gI (gA vs 1)) (gI (gA vs 2)) (gI (gA vs 3)) (gI (gA vs 6)) (gI (gA vs 8)) (cI st 4 0) (cI st 4 1) (oX (.int .i64) (gD st 5)) (cI st 6 0) (fun q0_ => K .ret (bld [6] [.x (.bool q0_)] 0 206) [.cells [.xi (cI st 0 0), .xi (cI st 0 1)], .vec (.int .i64) 0 (oX (.int .i64) (gD st 1)), .cells [.xi (cI st 2 0), .xi (cI st 2 1)], .cells [.xi (cI st 3 0), .xi (cI st 3 1)], .cells [.xi (cI st 4 0), .xi (cI st 4 1)], .vec (.int .i64) 0 (oX (.int .i64) (gD st 5)), .cells [.xi (cI st 6 0), .xi (cI st 6 1)]])
def L.a0_J2_F (vs : List V) (st : List Ob) (K : Ex -> St) : Prop := fitF L.a0_J2_ss L.a0_J2_os vs st (L.a0_J2_G vs st K)
theorem L.a0_J2_eq (y2 : L.yb) (u2 limit2 n1 end_1 first1 m0 m01 : Int) (m1 : (List Int)) (m2 m21 m3 m31 e32 e33 : Int) (w1 : (List Int)) (e42 e43 : Int) (m7 : (List Int)) (K : Ex -> St) : L.a0_J2_B y2 u2 limit2 n1 end_1 first1 e32 e33 w1 e42 (fun q0_ => K .ret (bld [6] [.x (.bool q0_)] 0 206) [.cells [.xi m0, .xi m01], .vec (.int .i64) 0 m1, .cells [.xi m2, .xi m21], .cells [.xi m3, .xi m31], .cells [.xi e32, .xi e33], .vec (.int .i64) 0 w1, .cells [.xi e42, .xi e43]]) = L.ex L.Γ_a0 L.Δ_a0 (.cut .leaf L.a0_J3_d 206 L.a0_J3_F) (sub [true, true, true, true, true, true, true, true, true, true, true, true] (codeOf Try.f6)) (bld L.a0_J2_d.keep [.ro L.ya y2, .xi u2, .xi limit2, .xi n1, .cl 4 0, .vec 5, .xi end_1, .cl 6 0, .xi first1] 0 206) [.cells [.xi m0, .xi m01], .vec (.int .i64) 0 m1, .cells [.xi m2, .xi m21], .cells [.xi m3, .xi m31], .cells [.xi e32, .xi e33], .vec (.int .i64) 0 w1, .cells [.xi e42, .xi e43], .vec (.int .i64) 0 m7] (cutK L.a0_J2_d K) := by
 kernel_rfl
theorem L.a0_J2_ok (vs : List V) (st : List Ob) (K : Ex -> St) : Imp (L.a0_J2_G vs st K) (L.ex L.Γ_a0 L.Δ_a0 (.cut .leaf L.a0_J3_d 206 L.a0_J3_F) (sub [true, true, true, true, true, true, true, true, true, true, true, true] (codeOf Try.f6)) (bld L.a0_J2_d.keep (mkL L.a0_J2_ss 0 vs) 0 206) (mkOs L.a0_J2_os 0 st) (cutK L.a0_J2_d K)) :=
 Imp.of (Eq.trans (b := L.ex L.Γ_a0 L.Δ_a0 (.cut .leaf L.a0_J3_d 206 L.a0_J3_F) (sub [true, true, true, true, true, true, true, true, true, true, true, true] (codeOf Try.f6)) (bld L.a0_J2_d.keep [.ro L.ya (gR L.ya (gA vs 0)), .xi (gI (gA vs 1)), .xi (gI (gA vs 2)), .xi (gI (gA vs 3)), .cl 4 0, .vec 5, .xi (gI (gA vs 6)), .cl 6 0, .xi (gI (gA vs 8))] 0 206) [.cells [.xi (cI st 0 0), .xi (cI st 0 1)], .vec (.int .i64) 0 (oX (.int .i64) (gD st 1)), .cells [.xi (cI st 2 0), .xi (cI st 2 1)], .cells [.xi (cI st 3 0), .xi (cI st 3 1)], .cells [.xi (cI st 4 0), .xi (cI st 4 1)], .vec (.int .i64) 0 (oX (.int .i64) (gD st 5)), .cells [.xi (cI st 6 0), .xi (cI st 6 1)], .vec (.int .i64) 0 (oX (.int .i64) (gD st 7))] (cutK L.a0_J2_d K)) (by kernel_rfl) (Eq.symm (L.a0_J2_eq (gR L.ya (gA vs 0)) (gI (gA vs 1)) (gI (gA vs 2)) (gI (gA vs 3)) (gI (gA vs 6)) (gI (gA vs 8)) (cI st 0 0) (cI st 0 1) (oX (.int .i64) (gD st 1)) (cI st 2 0) (cI st 2 1) (cI st 3 0) (cI st 3 1) (cI st 4 0) (cI st 4 1) (oX (.int .i64) (gD st 5)) (cI st 6 0) (cI st 6 1) (oX (.int .i64) (gD st 7)) K))) fun h => (L.a0_J2.out h)
def L.a0_J4_B (v148 : Bool) (Kn : Prop) (Kr : Bool -> Prop) : Prop :=
 (bif v148 then Kr false else Kn)
structure L.a0_J4 (v148 : Bool) (Kn : Prop) (Kr : Bool -> Prop) : Prop where
 out : L.a0_J4_B v148 Kn Kr
def L.a0_J4_d : CutD := { base := 8, vecs := [], flds := [], keep := [0, 1, 2, 12, 13, 14, 15, 16, 18, 148], out := [0, 1, 2, 12, 13, 14, 15, 16, 18], rets := [6], ovecs := [], oflds := [], rv := [], rbase := 7 }
def L.a0_J4_ss : List Sh := [.ro L.ya, .int .i64, .int .i64, .int .i64, .cl 4 0, .vec 5, .int .i64, .cl 6 0, .int .i64, .bool]
def L.a0_J4_os : List OSh := [.cells [.int .i64, .int .i64], .vec (.int .i64) true, .cells [.int .i64, .int .i64], .cells [.int .i64, .int .i64], .cells [.int .i64, .int .i64], .vec (.int .i64) true, .cells [.int .i64, .int .i64], .vec (.int .i64) true]
def L.a0_J4_G (vs : List V) (st : List Ob) (K : Ex -> St) : Prop := L.a0_J4 (gB (gA vs 9)) (K .normal (bld [0, 1, 2, 12, 13, 14, 15, 16, 18] [.ro L.ya (gR L.ya (gA vs 0)), .xi (gI (gA vs 1)), .xi (gI (gA vs 2)), .xi (gI (gA vs 3)), .cl 4 0, .vec 5, .xi (gI (gA vs 6)), .cl 6 0, .xi (gI (gA vs 8))] 0 206) [.cells [.xi (cI st 0 0), .xi (cI st 0 1)], .vec (.int .i64) 0 (oX (.int .i64) (gD st 1)), .cells [.xi (cI st 2 0), .xi (cI st 2 1)], .cells [.xi (cI st 3 0), .xi (cI st 3 1)], .cells [.xi (cI st 4 0), .xi (cI st 4 1)], .vec (.int .i64) 0 (oX (.int .i64) (gD st 5)), .cells [.xi (cI st 6 0), .xi (cI st 6 1)], .vec (.int .i64) 0 (oX (.int .i64) (gD st 7))]) (fun q0_ => K .ret (bld [6] [.x (.bool q0_)] 0 206) [.cells [.xi (cI st 0 0), .xi (cI st 0 1)], .vec (.int .i64) 0 (oX (.int .i64) (gD st 1)), .cells [.xi (cI st 2 0), .xi (cI st 2 1)], .cells [.xi (cI st 3 0), .xi (cI st 3 1)], .cells [.xi (cI st 4 0), .xi (cI st 4 1)], .vec (.int .i64) 0 (oX (.int .i64) (gD st 5)), .cells [.xi (cI st 6 0), .xi (cI st 6 1)]])
def L.a0_J4_F (vs : List V) (st : List Ob) (K : Ex -> St) : Prop := fitF L.a0_J4_ss L.a0_J4_os vs st (L.a0_J4_G vs st K)
theorem L.a0_J4_eq (y2 : L.yb) (u2 limit2 n1 end_1 first1 : Int) (v148 : Bool) (m0 m01 : Int) (m1 : (List Int)) (m2 m21 m3 m31 e32 e33 : Int) (w1 : (List Int)) (e42 e43 : Int) (m7 : (List Int)) (K : Ex -> St) : L.a0_J4_B v148 (K .normal (bld [0, 1, 2, 12, 13, 14, 15, 16, 18] [.ro L.ya y2, .xi u2, .xi limit2, .xi n1, .cl 4 0, .vec 5, .xi end_1, .cl 6 0, .xi first1] 0 206) [.cells [.xi m0, .xi m01], .vec (.int .i64) 0 m1, .cells [.xi m2, .xi m21], .cells [.xi m3, .xi m31], .cells [.xi e32, .xi e33], .vec (.int .i64) 0 w1, .cells [.xi e42, .xi e43], .vec (.int .i64) 0 m7]) (fun q0_ => K .ret (bld [6] [.x (.bool q0_)] 0 206) [.cells [.xi m0, .xi m01], .vec (.int .i64) 0 m1, .cells [.xi m2, .xi m21], .cells [.xi m3, .xi m31], .cells [.xi e32, .xi e33], .vec (.int .i64) 0 w1, .cells [.xi e42, .xi e43]]) = L.ex L.Γ_a0 L.Δ_a0 .leaf (sub [true, true, true, true, true, true, true, true, true, true, true, false, true] (codeOf Try.f6)) (bld L.a0_J4_d.keep [.ro L.ya y2, .xi u2, .xi limit2, .xi n1, .cl 4 0, .vec 5, .xi end_1, .cl 6 0, .xi first1, .x (.bool v148)] 0 206) [.cells [.xi m0, .xi m01], .vec (.int .i64) 0 m1, .cells [.xi m2, .xi m21], .cells [.xi m3, .xi m31], .cells [.xi e32, .xi e33], .vec (.int .i64) 0 w1, .cells [.xi e42, .xi e43], .vec (.int .i64) 0 m7] (cutK L.a0_J4_d K) := by
 kernel_rfl
theorem L.a0_J4_ok (vs : List V) (st : List Ob) (K : Ex -> St) : Imp (L.a0_J4_G vs st K) (L.ex L.Γ_a0 L.Δ_a0 .leaf (sub [true, true, true, true, true, true, true, true, true, true, true, false, true] (codeOf Try.f6)) (bld L.a0_J4_d.keep (mkL L.a0_J4_ss 0 vs) 0 206) (mkOs L.a0_J4_os 0 st) (cutK L.a0_J4_d K)) :=
 Imp.of (Eq.trans (b := L.ex L.Γ_a0 L.Δ_a0 .leaf (sub [true, true, true, true, true, true, true, true, true, true, true, false, true] (codeOf Try.f6)) (bld L.a0_J4_d.keep [.ro L.ya (gR L.ya (gA vs 0)), .xi (gI (gA vs 1)), .xi (gI (gA vs 2)), .xi (gI (gA vs 3)), .cl 4 0, .vec 5, .xi (gI (gA vs 6)), .cl 6 0, .xi (gI (gA vs 8)), .x (.bool (gB (gA vs 9)))] 0 206) [.cells [.xi (cI st 0 0), .xi (cI st 0 1)], .vec (.int .i64) 0 (oX (.int .i64) (gD st 1)), .cells [.xi (cI st 2 0), .xi (cI st 2 1)], .cells [.xi (cI st 3 0), .xi (cI st 3 1)], .cells [.xi (cI st 4 0), .xi (cI st 4 1)], .vec (.int .i64) 0 (oX (.int .i64) (gD st 5)), .cells [.xi (cI st 6 0), .xi (cI st 6 1)], .vec (.int .i64) 0 (oX (.int .i64) (gD st 7))] (cutK L.a0_J4_d K)) (by kernel_rfl) (Eq.symm (L.a0_J4_eq (gR L.ya (gA vs 0)) (gI (gA vs 1)) (gI (gA vs 2)) (gI (gA vs 3)) (gI (gA vs 6)) (gI (gA vs 8)) (gB (gA vs 9)) (cI st 0 0) (cI st 0 1) (oX (.int .i64) (gD st 1)) (cI st 2 0) (cI st 2 1) (cI st 3 0) (cI st 3 1) (cI st 4 0) (cI st 4 1) (oX (.int .i64) (gD st 5)) (cI st 6 0) (cI st 6 1) (oX (.int .i64) (gD st 7)) K))) fun h => (L.a0_J4.out h)
def L.a0_J1_B (y1 : L.yb) (u1 limit1 sum n end_ v v1 : Int) (l : (List Int)) (e1 e11 e2 e21 e3 e31 : Int) (w : (List Int)) (e4 e41 : Int) (Kr : Bool -> Prop) : Prop :=
 (bif (v != 0) then Kr (bif (bif (bif (bif (bif (bif (bif (bif ((e1 == v) && ((e11 == v1) && true)) then ((e2 == v) && ((e21 == v1) && true)) else false) then ((e3 == v) && ((e31 == v1) && true)) else false) then ((e4 == v) && ((e41 == v1) && true)) else false) then ((l.length : Int) == 0) else false) then (sum == 0) else false) then (n == 0) else false) then ((w.length : Int) == 0) else false) then (end_ == 0) else false) else L.a0_L1 y1 limit1 (-1) 0 ([] : List Int) (fun first want => (bif (bif (e1 != 0) then true else (e2 != 0)) then L.a0_J4 true (L.a0_J2 y1 u1 limit1 n end_ first e3 e31 w e4 Kr) Kr else L.a3 l want (fun r5 => (bif (bif false then true else (!r5)) then L.a0_J4 true (L.a0_J2 y1 u1 limit1 n end_ first e3 e31 w e4 Kr) Kr else L.b8 want (fun r6 => L.a0_J4 (bif false then true else (sum != r6)) (L.a0_J2 y1 u1 limit1 n end_ first e3 e31 w e4 Kr) Kr))))))
structure L.a0_J1 (y1 : L.yb) (u1 limit1 sum n end_ v v1 : Int) (l : (List Int)) (e1 e11 e2 e21 e3 e31 : Int) (w : (List Int)) (e4 e41 : Int) (Kr : Bool -> Prop) : Prop where
 out : L.a0_J1_B y1 u1 limit1 sum n end_ v v1 l e1 e11 e2 e21 e3 e31 w e4 e41 Kr
def L.a0_J1_d : CutD := { base := 7, vecs := [], flds := [], keep := [0, 1, 2, 7, 8, 9, 10, 11, 12, 13, 14, 15, 16], out := [], rets := [6], ovecs := [], oflds := [], rv := [], rbase := 0 }
def L.a0_J1_ss : List Sh := [.ro L.ya, .int .i64, .int .i64, .cl 0 0, .vec 1, .cl 2 0, .int .i64, .cl 3 0, .int .i64, .cl 4 0, .vec 5, .int .i64, .cl 6 0]
def L.a0_J1_os : List OSh := [.cells [.int .i64, .int .i64], .vec (.int .i64) true, .cells [.int .i64, .int .i64], .cells [.int .i64, .int .i64], .cells [.int .i64, .int .i64], .vec (.int .i64) true, .cells [.int .i64, .int .i64]]
def L.a0_J1_G (vs : List V) (st : List Ob) (K : Ex -> St) : Prop := L.a0_J1 (gR L.ya (gA vs 0)) (gI (gA vs 1)) (gI (gA vs 2)) (gI (gA vs 6)) (gI (gA vs 8)) (gI (gA vs 11)) (cI st 0 0) (cI st 0 1) (oX (.int .i64) (gD st 1)) (cI st 2 0) (cI st 2 1) (cI st 3 0) (cI st 3 1) (cI st 4 0) (cI st 4 1) (oX (.int .i64) (gD st 5)) (cI st 6 0) (cI st 6 1) (fun q0_ => K .ret (bld [6] [.x (.bool q0_)] 0 206) [])
def L.a0_J1_F (vs : List V) (st : List Ob) (K : Ex -> St) : Prop := fitF L.a0_J1_ss L.a0_J1_os vs st (L.a0_J1_G vs st K)
theorem L.a0_J1_eq (y1 : L.yb) (u1 limit1 sum n end_ v v1 : Int) (l : (List Int)) (e1 e11 e2 e21 e3 e31 : Int) (w : (List Int)) (e4 e41 : Int) (K : Ex -> St) : L.a0_J1_B y1 u1 limit1 sum n end_ v v1 l e1 e11 e2 e21 e3 e31 w e4 e41 (fun q0_ => K .ret (bld [6] [.x (.bool q0_)] 0 206) []) = L.ex L.Γ_a0 L.Δ_a0 (.node .leaf (.node .leaf (.node .leaf (.node (.node .leaf (.lift L.a0_L1_d 206 L.a0_L1_F)) (.cut (.cut .leaf L.a0_J4_d 206 L.a0_J4_F) L.a0_J2_d 206 L.a0_J2_F))))) (sub [true, true, true, true, true, true, true] (codeOf Try.f6)) (bld L.a0_J1_d.keep [.ro L.ya y1, .xi u1, .xi limit1, .cl 0 0, .vec 1, .cl 2 0, .xi sum, .cl 3 0, .xi n, .cl 4 0, .vec 5, .xi end_, .cl 6 0] 0 206) [.cells [.xi v, .xi v1], .vec (.int .i64) 0 l, .cells [.xi e1, .xi e11], .cells [.xi e2, .xi e21], .cells [.xi e3, .xi e31], .vec (.int .i64) 0 w, .cells [.xi e4, .xi e41]] (cutK L.a0_J1_d K) := by
 kernel_rfl
theorem L.a0_J1_ok (vs : List V) (st : List Ob) (K : Ex -> St) : Imp (L.a0_J1_G vs st K) (L.ex L.Γ_a0 L.Δ_a0 (.node .leaf (.node .leaf (.node .leaf (.node (.node .leaf (.lift L.a0_L1_d 206 L.a0_L1_F)) (.cut (.cut .leaf L.a0_J4_d 206 L.a0_J4_F) L.a0_J2_d 206 L.a0_J2_F))))) (sub [true, true, true, true, true, true, true] (codeOf Try.f6)) (bld L.a0_J1_d.keep (mkL L.a0_J1_ss 0 vs) 0 206) (mkOs L.a0_J1_os 0 st) (cutK L.a0_J1_d K)) :=
 Imp.of (Eq.trans (b := L.ex L.Γ_a0 L.Δ_a0 (.node .leaf (.node .leaf (.node .leaf (.node (.node .leaf (.lift L.a0_L1_d 206 L.a0_L1_F)) (.cut (.cut .leaf L.a0_J4_d 206 L.a0_J4_F) L.a0_J2_d 206 L.a0_J2_F))))) (sub [true, true, true, true, true, true, true] (codeOf Try.f6)) (bld L.a0_J1_d.keep [.ro L.ya (gR L.ya (gA vs 0)), .xi (gI (gA vs 1)), .xi (gI (gA vs 2)), .cl 0 0, .vec 1, .cl 2 0, .xi (gI (gA vs 6)), .cl 3 0, .xi (gI (gA vs 8)), .cl 4 0, .vec 5, .xi (gI (gA vs 11)), .cl 6 0] 0 206) [.cells [.xi (cI st 0 0), .xi (cI st 0 1)], .vec (.int .i64) 0 (oX (.int .i64) (gD st 1)), .cells [.xi (cI st 2 0), .xi (cI st 2 1)], .cells [.xi (cI st 3 0), .xi (cI st 3 1)], .cells [.xi (cI st 4 0), .xi (cI st 4 1)], .vec (.int .i64) 0 (oX (.int .i64) (gD st 5)), .cells [.xi (cI st 6 0), .xi (cI st 6 1)]] (cutK L.a0_J1_d K)) (by kernel_rfl) (Eq.symm (L.a0_J1_eq (gR L.ya (gA vs 0)) (gI (gA vs 1)) (gI (gA vs 2)) (gI (gA vs 6)) (gI (gA vs 8)) (gI (gA vs 11)) (cI st 0 0) (cI st 0 1) (oX (.int .i64) (gD st 1)) (cI st 2 0) (cI st 2 1) (cI st 3 0) (cI st 3 1) (cI st 4 0) (cI st 4 1) (oX (.int .i64) (gD st 5)) (cI st 6 0) (cI st 6 1) K))) fun h => (L.a0_J1.out h)
def L.a0_J5_B (v60 : Bool) (Kn : Prop) (Kr : Bool -> Prop) : Prop :=
 (bif v60 then Kr false else Kn)
structure L.a0_J5 (v60 : Bool) (Kn : Prop) (Kr : Bool -> Prop) : Prop where
 out : L.a0_J5_B v60 Kn Kr
def L.a0_J5_d : CutD := { base := 7, vecs := [], flds := [], keep := [0, 1, 2, 7, 8, 9, 10, 11, 12, 13, 14, 15, 16, 60], out := [0, 1, 2, 7, 8, 9, 10, 11, 12, 13, 14, 15, 16], rets := [6], ovecs := [], oflds := [], rv := [], rbase := 0 }
def L.a0_J5_ss : List Sh := [.ro L.ya, .int .i64, .int .i64, .cl 0 0, .vec 1, .cl 2 0, .int .i64, .cl 3 0, .int .i64, .cl 4 0, .vec 5, .int .i64, .cl 6 0, .bool]
def L.a0_J5_os : List OSh := [.cells [.int .i64, .int .i64], .vec (.int .i64) true, .cells [.int .i64, .int .i64], .cells [.int .i64, .int .i64], .cells [.int .i64, .int .i64], .vec (.int .i64) true, .cells [.int .i64, .int .i64]]
def L.a0_J5_G (vs : List V) (st : List Ob) (K : Ex -> St) : Prop := L.a0_J5 (gB (gA vs 13)) (K .normal (bld [0, 1, 2, 7, 8, 9, 10, 11, 12, 13, 14, 15, 16] [.ro L.ya (gR L.ya (gA vs 0)), .xi (gI (gA vs 1)), .xi (gI (gA vs 2)), .cl 0 0, .vec 1, .cl 2 0, .xi (gI (gA vs 6)), .cl 3 0, .xi (gI (gA vs 8)), .cl 4 0, .vec 5, .xi (gI (gA vs 11)), .cl 6 0] 0 206) [.cells [.xi (cI st 0 0), .xi (cI st 0 1)], .vec (.int .i64) 0 (oX (.int .i64) (gD st 1)), .cells [.xi (cI st 2 0), .xi (cI st 2 1)], .cells [.xi (cI st 3 0), .xi (cI st 3 1)], .cells [.xi (cI st 4 0), .xi (cI st 4 1)], .vec (.int .i64) 0 (oX (.int .i64) (gD st 5)), .cells [.xi (cI st 6 0), .xi (cI st 6 1)]]) (fun q0_ => K .ret (bld [6] [.x (.bool q0_)] 0 206) [])
def L.a0_J5_F (vs : List V) (st : List Ob) (K : Ex -> St) : Prop := fitF L.a0_J5_ss L.a0_J5_os vs st (L.a0_J5_G vs st K)
theorem L.a0_J5_eq (y1 : L.yb) (u1 limit1 sum n end_ : Int) (v60 : Bool) (v v1 : Int) (l : (List Int)) (e1 e11 e2 e21 e3 e31 : Int) (w : (List Int)) (e4 e41 : Int) (K : Ex -> St) : L.a0_J5_B v60 (K .normal (bld [0, 1, 2, 7, 8, 9, 10, 11, 12, 13, 14, 15, 16] [.ro L.ya y1, .xi u1, .xi limit1, .cl 0 0, .vec 1, .cl 2 0, .xi sum, .cl 3 0, .xi n, .cl 4 0, .vec 5, .xi end_, .cl 6 0] 0 206) [.cells [.xi v, .xi v1], .vec (.int .i64) 0 l, .cells [.xi e1, .xi e11], .cells [.xi e2, .xi e21], .cells [.xi e3, .xi e31], .vec (.int .i64) 0 w, .cells [.xi e4, .xi e41]]) (fun q0_ => K .ret (bld [6] [.x (.bool q0_)] 0 206) []) = L.ex L.Γ_a0 L.Δ_a0 .leaf (sub [true, true, true, true, true, true, false, true] (codeOf Try.f6)) (bld L.a0_J5_d.keep [.ro L.ya y1, .xi u1, .xi limit1, .cl 0 0, .vec 1, .cl 2 0, .xi sum, .cl 3 0, .xi n, .cl 4 0, .vec 5, .xi end_, .cl 6 0, .x (.bool v60)] 0 206) [.cells [.xi v, .xi v1], .vec (.int .i64) 0 l, .cells [.xi e1, .xi e11], .cells [.xi e2, .xi e21], .cells [.xi e3, .xi e31], .vec (.int .i64) 0 w, .cells [.xi e4, .xi e41]] (cutK L.a0_J5_d K) := by
 kernel_rfl
theorem L.a0_J5_ok (vs : List V) (st : List Ob) (K : Ex -> St) : Imp (L.a0_J5_G vs st K) (L.ex L.Γ_a0 L.Δ_a0 .leaf (sub [true, true, true, true, true, true, false, true] (codeOf Try.f6)) (bld L.a0_J5_d.keep (mkL L.a0_J5_ss 0 vs) 0 206) (mkOs L.a0_J5_os 0 st) (cutK L.a0_J5_d K)) :=
 Imp.of (Eq.trans (b := L.ex L.Γ_a0 L.Δ_a0 .leaf (sub [true, true, true, true, true, true, false, true] (codeOf Try.f6)) (bld L.a0_J5_d.keep [.ro L.ya (gR L.ya (gA vs 0)), .xi (gI (gA vs 1)), .xi (gI (gA vs 2)), .cl 0 0, .vec 1, .cl 2 0, .xi (gI (gA vs 6)), .cl 3 0, .xi (gI (gA vs 8)), .cl 4 0, .vec 5, .xi (gI (gA vs 11)), .cl 6 0, .x (.bool (gB (gA vs 13)))] 0 206) [.cells [.xi (cI st 0 0), .xi (cI st 0 1)], .vec (.int .i64) 0 (oX (.int .i64) (gD st 1)), .cells [.xi (cI st 2 0), .xi (cI st 2 1)], .cells [.xi (cI st 3 0), .xi (cI st 3 1)], .cells [.xi (cI st 4 0), .xi (cI st 4 1)], .vec (.int .i64) 0 (oX (.int .i64) (gD st 5)), .cells [.xi (cI st 6 0), .xi (cI st 6 1)]] (cutK L.a0_J5_d K)) (by kernel_rfl) (Eq.symm (L.a0_J5_eq (gR L.ya (gA vs 0)) (gI (gA vs 1)) (gI (gA vs 2)) (gI (gA vs 6)) (gI (gA vs 8)) (gI (gA vs 11)) (gB (gA vs 13)) (cI st 0 0) (cI st 0 1) (oX (.int .i64) (gD st 1)) (cI st 2 0) (cI st 2 1) (cI st 3 0) (cI st 3 1) (cI st 4 0) (cI st 4 1) (oX (.int .i64) (gD st 5)) (cI st 6 0) (cI st 6 1) K))) fun h => (L.a0_J5.out h)
def L.a0_B (tk : L.yb) (ws limit : Int) (K : Bool -> Prop) : Prop :=
 L.a1 tk ws (fun rCode rIndex => L.c0 tk ws (fun r rCode1 rIndex1 => L.c6 tk ws (fun r1 rCode2 rIndex2 => L.b7 tk ws limit (fun r2 rCode3 rIndex3 => L.a6 tk ws (fun r3 r4 rCode4 rIndex4 => L.c4 (fun r5 => (bif okAll [((!r5), false)] then L.a4 tk ws (fun rCode5 rIndex5 => L.a0_J5 (!((rCode5 == rCode) && ((rIndex5 == rIndex) && true))) (L.a0_J1 tk ws limit r1 r2 r4 rCode rIndex r rCode1 rIndex1 rCode2 rIndex2 rCode3 rIndex3 r3 rCode4 rIndex4 K) K) else L.a0_J5 true (L.a0_J1 tk ws limit r1 r2 r4 rCode rIndex r rCode1 rIndex1 rCode2 rIndex2 rCode3 rIndex3 r3 rCode4 rIndex4 K) K)))))))
structure L.a0 (tk : L.yb) (ws limit : Int) (K : Bool -> Prop) : Prop where
 out : L.a0_B tk ws limit K
def L.a0_ss : List Sh := [.ro L.ya, .int .i64, .int .i64]
def L.a0_G (vs : List V) (K : V -> List Ob -> Prop) : Prop := L.a0 (gR L.ya (gA vs 0)) (gI (gA vs 1)) (gI (gA vs 2)) (fun r0 => K (.x (.bool r0)) [])
def L.a0_S : SemF := fun args K => argF L.a0_ss args fun a => L.a0_G a K
noncomputable abbrev L.a0_N : SemF := run L.pg L.Γ_a0 L.Δ_a0 (.node .leaf (.node .leaf (.node .leaf (.node .leaf (.node .leaf (.node .leaf (.cut (.cut .leaf L.a0_J5_d 206 L.a0_J5_F) L.a0_J1_d 206 L.a0_J1_F))))))) .any Try.f6
theorem L.a0_eq (tk : L.yb) (ws limit : Int) (K : V -> List Ob -> Prop) : L.a0_N [.ro L.ya tk, .xi ws, .xi limit] K = L.a0_B tk ws limit (fun r0 => K (.x (.bool r0)) []) := by
 kernel_rfl
theorem L.a0_imp (vs : List V) (K : V -> List Ob -> Prop) : Imp (L.a0_G vs K) (L.a0_N (mkL L.a0_ss 0 vs) K) :=
 Imp.of (Eq.trans (b := L.a0_N [.ro L.ya (gR L.ya (gA vs 0)), .xi (gI (gA vs 1)), .xi (gI (gA vs 2))] K) (by kernel_rfl) (L.a0_eq (gR L.ya (gA vs 0)) (gI (gA vs 1)) (gI (gA vs 2)) K)) fun h => (L.a0.out h)
theorem L.a0_ok : SoundFn L.pg 6 L.a0_S :=
 fn_ok (sem := L.a0_N) (ss := L.a0_ss) (G := L.a0_G) (run_ok L.Γ_a0_ok L.Δ_a0_ok Try.func6 (ann := (.node .leaf (.node .leaf (.node .leaf (.node .leaf (.node .leaf (.node .leaf (.cut (.cut .leaf L.a0_J5_d 206 L.a0_J5_F) L.a0_J1_d 206 L.a0_J1_F)))))))) ⟨L.al, ⟨L.al, ⟨L.al, ⟨L.al, ⟨L.al, ⟨L.al, (cut_ok (ay := (.node .leaf (.node .leaf (.node .leaf (.node (.node .leaf (.lift L.a0_L1_d 206 L.a0_L1_F)) (.cut (.cut .leaf L.a0_J4_d 206 L.a0_J4_F) L.a0_J2_d 206 L.a0_J2_F)))))) (ss := L.a0_J1_ss) (os := L.a0_J1_os) (G := L.a0_J1_G) rfl (cut_ok (ay := .leaf) (ss := L.a0_J5_ss) (os := L.a0_J5_os) (G := L.a0_J5_G) rfl L.al (L.lb rfl) (L.lb rfl) L.al L.a0_J5_ok) (L.lb rfl) (L.lb rfl) ⟨L.al, ⟨L.al, ⟨L.al, ⟨⟨L.al, L.a0_L1_ok⟩, (cut_ok (ay := (.cut .leaf L.a0_J3_d 206 L.a0_J3_F)) (ss := L.a0_J2_ss) (os := L.a0_J2_os) (G := L.a0_J2_G) rfl (cut_ok (ay := .leaf) (ss := L.a0_J4_ss) (os := L.a0_J4_os) (G := L.a0_J4_G) rfl L.al (L.lb rfl) (L.lb rfl) L.al L.a0_J4_ok) (L.lb rfl) (L.lb rfl) (cut_ok (ay := (.node .leaf (.node .leaf (.node (.node .leaf (.lift L.a0_L2_d 206 L.a0_L2_F)) .leaf)))) (ss := L.a0_J3_ss) (os := L.a0_J3_os) (G := L.a0_J3_G) rfl L.al (L.lb rfl) (L.lb rfl) ⟨L.al, ⟨L.al, ⟨⟨L.al, L.a0_L2_ok⟩, L.al⟩⟩⟩ L.a0_J3_ok) L.a0_J2_ok)⟩⟩⟩⟩ L.a0_J1_ok)⟩⟩⟩⟩⟩⟩) L.a0_imp
end Go.Proofs.Ytmdkmlgafnjhmaa
namespace Go.Proofs.Ytmdkmlgafnjhmaa
open Eng
namespace Wt
theorem drop_cons {α : Type} {l : List α} {i : Nat} (d : α) (h : i < l.length) : l.drop i = l.getD i d :: l.drop (i + 1) := by
 rw [List.drop_eq_getElem_cons h, List.getD_eq_getElem?_getD, List.getElem?_eq_getElem h]; rfl
theorem getD_mem {α : Type} {l : List α} {i : Nat} (d : α) (h : i < l.length) : l.getD i d ∈ l := by
 rw [List.getD_eq_getElem?_getD, List.getElem?_eq_getElem h]; exact List.getElem_mem h
theorem take_snoc {α : Type} {l : List α} {i : Nat} (d : α) (h : i < l.length) : l.take (i + 1) = l.take i ++ [l.getD i d] := by
 rw [List.take_succ_eq_append_getElem h, List.getD_eq_getElem?_getD, List.getElem?_eq_getElem h]; rfl
theorem fits_of {n : Nat} (h : n <= 1000) : fits n := by unfold fits; omega
theorem bool_iff {a b : Bool} (h : a = true ↔ b = true) : a = b := by cases a <;> cases b <;> simp_all
def dg (a : Int) : Prop := 0 <= a /\ a < 2305843009213693951
def pr (a b : Int) : Int := (a * 1000003 + b * 31 + 7) % 2305843009213693951
theorem pr_dg (a b : Int) : dg (pr a b) := by unfold dg pr; omega
theorem bit1 (b : Nat) : (BitVec.ofInt 64 (b : Int) &&& BitVec.ofInt 64 1).toNat = b % 2 := by
 rw [BitVec.toNat_and]
 have h1 : (BitVec.ofInt 64 (1 : Int)).toNat = 1 := by decide
 rw [h1, Nat.and_one_is_mod]
 simp only [BitVec.ofInt_natCast, BitVec.toNat_ofNat]
 omega
theorem half1 (b : Nat) : (b : Int).fdiv (2 ^ (min (1 : Int).toNat 64)) = ((b / 2 : Nat) : Int) := by
 show (b : Int).fdiv 2 = _
 rw [Int.fdiv_eq_ediv_of_nonneg _ (by omega)]
 omega
theorem step1 {a out : Int} {b : Nat} (hb : b % 2 = 1) : ((out + a) % 2305843009213693951 + (2 * a % 2305843009213693951) * ((b / 2 : Nat) : Int)) % 2305843009213693951 = (out + a * b) % 2305843009213693951 := by
 have e : out + a * (b : Int) = (out + a) + 2 * a * ((b / 2 : Nat) : Int) := by
  have h : (b : Int) = 2 * ((b / 2 : Nat) : Int) + 1 := by omega
  generalize hk : ((b / 2 : Nat) : Int) = k at h ⊢
  rw [h, Int.mul_add, Int.mul_one, Int.mul_left_comm, Int.mul_assoc]; omega
 rw [e, Int.add_emod, Int.emod_emod, Int.mul_emod, Int.emod_emod, <- Int.mul_emod, <- Int.add_emod]
theorem step0 {a out : Int} {b : Nat} (hb : b % 2 = 0) : (out + (2 * a % 2305843009213693951) * ((b / 2 : Nat) : Int)) % 2305843009213693951 = (out + a * b) % 2305843009213693951 := by
 have e : out + a * (b : Int) = out + 2 * a * ((b / 2 : Nat) : Int) := by
  have h : (b : Int) = 2 * ((b / 2 : Nat) : Int) := by omega
  generalize hk : ((b / 2 : Nat) : Int) = k at h ⊢
  rw [h, Int.mul_left_comm, Int.mul_assoc]
 rw [e, Int.add_emod, Int.mul_emod, Int.emod_emod, <- Int.mul_emod, <- Int.add_emod]
theorem tmod_pos {a : Int} (h : 0 <= a) : a.tmod 2305843009213693951 = a % 2305843009213693951 := Int.tmod_eq_emod_of_nonneg h
theorem mul_loop {K : Int -> Prop} : ∀ (fu b : Nat) (a out : Int), b < 2 ^ fu -> fu <= 60 -> dg a -> dg out -> K ((out + a * b) % 2305843009213693951) -> L.b5_L1_R (fu + 1) a b out K
 | fu, b, a, out, hb, hf, ha, ho, hK => by
  have hlt : (2 : Nat) ^ fu <= 2 ^ 60 := Nat.pow_le_pow_right (by omega) hf
  have h60 : (2 : Nat) ^ 60 = 1152921504606846976 := by decide
  show L.b5_L1_b a b out _ _
  unfold L.b5_L1_b
  obtain ⟨ha1, ha2⟩ := ha
  obtain ⟨ho1, ho2⟩ := ho
  rcases Nat.eq_zero_or_pos b with rfl | hpos
  · refine cond_f (by simp) ?_
    have : (out + a * ((0 : Nat) : Int)) % 2305843009213693951 = out := by
     simp only [Int.natCast_zero, Int.mul_zero, Int.add_zero]; omega
    rw [this] at hK
    exact hK
  · refine cond_t (by simp; omega) ?_
    obtain ⟨f, rfl⟩ : ∃ f, fu = f + 1 := by
     cases fu with
     | zero => omega
     | succ f => exact ⟨f, rfl⟩
    have hb2 : b / 2 < 2 ^ f := by rw [Nat.pow_succ] at hb; omega
    rw [bit1, half1]
    rw [i64_id (n := (2 : Int) * a) (by omega) (by omega), tmod_pos (by omega)]
    have hda : dg (2 * a % 2305843009213693951) := by unfold dg; omega
    rcases Nat.mod_two_eq_zero_or_one b with h | h
    · rw [h]
      refine cond_f (by decide) ⟨by decide, by decide, ?_⟩
      refine mul_loop f (b / 2) _ out hb2 (by omega) hda ⟨ho1, ho2⟩ ?_
      rw [step0 h]; exact hK
    · rw [h]
      refine cond_t (by decide) ⟨by decide, by decide, by decide, ?_⟩
      rw [i64_id (n := out + a) (by omega) (by omega), tmod_pos (by omega)]
      refine mul_loop f (b / 2) _ _ hb2 (by omega) hda (by unfold dg; omega) ?_
      rw [step1 h]; exact hK
theorem mul_ok {a : Int} {b : Nat} (ha : dg a) (hb : b < 1048576) {K : Int -> Prop} (hK : K (a * b % 2305843009213693951)) : L.b5 a b K :=
 ⟨⟨⟨21, mul_loop 20 b a 0 hb (by omega) ha ⟨by omega, by omega⟩ (by rw [Int.zero_add]; exact hK)⟩⟩⟩
theorem prod_loop {K : Int -> Prop} : ∀ (fu b : Nat) (a out : Int), b < 2 ^ fu -> fu <= 60 -> dg a -> dg out -> K ((out + a * b) % 2305843009213693951) -> L.b0_L1_R (fu + 1) a b out K
 | fu, b, a, out, hb, hf, ha, ho, hK => by
  have hlt : (2 : Nat) ^ fu <= 2 ^ 60 := Nat.pow_le_pow_right (by omega) hf
  have h60 : (2 : Nat) ^ 60 = 1152921504606846976 := by decide
  show L.b0_L1_b a b out _ _
  unfold L.b0_L1_b
  obtain ⟨ha1, ha2⟩ := ha
  obtain ⟨ho1, ho2⟩ := ho
  rcases Nat.eq_zero_or_pos b with rfl | hpos
  · refine cond_f (by simp) ?_
    have : (out + a * ((0 : Nat) : Int)) % 2305843009213693951 = out := by
     simp only [Int.natCast_zero, Int.mul_zero, Int.add_zero]; omega
    rw [this] at hK
    exact hK
  · refine cond_t (by simp; omega) ⟨by decide, ?_⟩
    obtain ⟨f, rfl⟩ : ∃ f, fu = f + 1 := by
     cases fu with
     | zero => omega
     | succ f => exact ⟨f, rfl⟩
    have hb2 : b / 2 < 2 ^ f := by rw [Nat.pow_succ] at hb; omega
    have e2 : i64 ((b : Int).tdiv 2) = ((b / 2 : Nat) : Int) := by
     have : (b : Int).tdiv 2 = ((b / 2 : Nat) : Int) := by rw [Int.tdiv_eq_ediv_of_nonneg (by omega)]; omega
     rw [this]
     exact i64_id (by omega) (by omega)
    have e1 : (b : Int).tmod 2 = ((b % 2 : Nat) : Int) := by rw [Int.tmod_eq_emod_of_nonneg (by omega)]; omega
    rw [e1, e2]
    rw [i64_id (n := (2 : Int) * a) (by omega) (by omega), tmod_pos (by omega)]
    have hda : dg (2 * a % 2305843009213693951) := by unfold dg; omega
    rcases Nat.mod_two_eq_zero_or_one b with h | h
    · rw [h]
      refine cond_f (by decide) ⟨by decide, by decide, ?_⟩
      refine prod_loop f (b / 2) _ out hb2 (by omega) hda ⟨ho1, ho2⟩ ?_
      rw [step0 h]; exact hK
    · rw [h]
      refine cond_t (by decide) ⟨by decide, by decide, by decide, ?_⟩
      rw [i64_id (n := out + a) (by omega) (by omega), tmod_pos (by omega)]
      refine prod_loop f (b / 2) _ _ hb2 (by omega) hda (by unfold dg; omega) ?_
      rw [step1 h]; exact hK
theorem prod_ok {a : Int} {b : Nat} (ha : dg a) (hb : b < 1048576) {K : Int -> Prop} (hK : K (a * b % 2305843009213693951)) : L.b0 a b K :=
 ⟨⟨⟨21, prod_loop 20 b a 0 hb (by omega) ha ⟨by omega, by omega⟩ (by rw [Int.zero_add]; exact hK)⟩⟩⟩
theorem refPair_ok {a b : Int} (ha : dg a) (hb : dg b) {K : Int -> Prop} (hK : K (pr a b)) : L.c2 a b K := by
 constructor
 unfold L.c2_B
 refine prod_ok (b := 1000003) ha (by omega) (prod_ok (b := 31) hb (by omega) ⟨by decide, ?_⟩)
 rw [i64_id (n := a * ((1000003 : Nat) : Int) % 2305843009213693951 + b * ((31 : Nat) : Int) % 2305843009213693951) (by omega) (by omega), i64_id (by omega) (by omega), tmod_pos (by omega)]
 have : (a * ((1000003 : Nat) : Int) % 2305843009213693951 + b * ((31 : Nat) : Int) % 2305843009213693951 + 7) % 2305843009213693951 = pr a b := by unfold pr; omega
 rw [this]; exact hK
theorem next_ok {s0 s1 : Int} {f : Nat} (h0 : dg s0) (h1 : 0 <= s1 /\ s1 <= 2305843009213693951) (hf : f < 1048576) {K : Int -> Prop} (hK : K ((s0 * f % 2305843009213693951 + s1) % 2305843009213693951)) : L.c1 s0 s1 f K := by
 constructor
 unfold L.c1_B
 refine ⟨inB_of (by omega) (by omega), by decide, mul_ok h0 hf ⟨inB_of (by omega) (by omega), by decide, by decide, ?_⟩⟩
 have e1 : ([s0, s1] : List Int).getD (Int.toNat 1) 0 = s1 := rfl
 rw [e1]
 rw [i64_id (by omega) (by omega), tmod_pos (by omega)]
 exact hK
theorem pair_ok {a b : Int} (ha : dg a) (hb : dg b) {K : Int -> Prop} (hK : K (pr a b)) : L.c7 a b K := by
 constructor
 unfold L.c7_B
 refine next_ok (f := 31) hb (by omega) (by omega) (next_ok (f := 1000003) ha (by omega) (by omega) ?_)
 have : (a * ((1000003 : Nat) : Int) % 2305843009213693951 + (b * ((31 : Nat) : Int) % 2305843009213693951 + 7) % 2305843009213693951) % 2305843009213693951 = pr a b := by unfold pr; omega
 rw [this]; exact hK
def vd (c : Int) : Bool := decide (0 <= c /\ c < 2305843009213693951)
theorem vd_iff {c : Int} : vd c = true ↔ dg c := by unfold vd dg; simp
theorem is_ok {n : Int} {K : Bool -> Prop} (hK : K (vd n)) : L.c8 n K := by
 constructor
 unfold L.c8_B
 have : (bif (decide (n ≥ 0)) then (decide (n < 2305843009213693951)) else false) = vd n := bool_iff (by simp [vd])
 rw [this]; exact hK
theorem Pair_ok {a b : Int} (ha : dg a) (hb : dg b) {K : Int -> Int -> Int -> Prop} (hK : K (pr a b) 0 0) : L.a5 a b K := by
 refine ⟨⟨⟨3, ?_⟩⟩⟩
 show L.a5_L1_b a b 0 _ _ _
 unfold L.a5_L1_b
 refine cond_t (by decide) ⟨inB_of (by omega) (by omega), is_ok ?_⟩
 have h1 : vd ((([a, b] : List Int).getD (0 : Int).toNat 0)) = true := vd_iff.2 ha
 rw [h1]
 refine cond_f rfl ?_
 rw [i64_id (by omega) (by omega)]
 show L.a5_L1_b a b (0 + 1) _ _ _
 unfold L.a5_L1_b
 refine cond_t (by decide) ⟨inB_of (by omega) (by omega), is_ok ?_⟩
 have h2 : vd ((([a, b] : List Int).getD (0 + 1 : Int).toNat 0)) = true := vd_iff.2 hb
 rw [h2]
 refine cond_f rfl ?_
 rw [i64_id (by omega) (by omega)]
 show L.a5_L1_b a b (0 + 1 + 1) _ _ _
 unfold L.a5_L1_b
 exact cond_f (by decide) (pair_ok ha hb hK)
theorem Fault_ok {a b : Int} {K : Int -> Int -> Prop} (hK : K a b) : L.b9 a b K := ⟨hK⟩
open Wp in
theorem mulF_eq : ∀ (n b : Nat) (x a : Int), b < 2 ^ n -> b < 1152921504606846976 -> dg x -> dg a -> mulF n x b a = (a + x * b) % 2305843009213693951
 | 0, b, x, a, hb, _, hx, ha => by
  obtain rfl : b = 0 := by simpa using hb
  unfold dg at ha
  show a = (a + x * ((0 : Nat) : Int)) % 2305843009213693951
  simp only [Int.natCast_zero, Int.mul_zero, Int.add_zero]
  omega
 | n + 1, b, x, a, hb, hn, hx, ha => by
  obtain ⟨hx1, hx2⟩ := hx
  obtain ⟨ha1, ha2⟩ := ha
  unfold mulF
  rcases Nat.eq_zero_or_pos b with rfl | hpos
  · have : decide (((0 : Nat) : Int) > 0) = false := by simp
    rw [this]
    simp only [cond_false, Int.natCast_zero, Int.mul_zero, Int.add_zero]
    omega
  · have : decide ((b : Int) > 0) = true := by simp; omega
    rw [this]
    simp only [cond_true]
    have hb2 : b / 2 < 2 ^ n := by rw [Nat.pow_succ] at hb; omega
    have e2 : (b : Int).fdiv 2 = ((b / 2 : Nat) : Int) := by rw [Int.fdiv_eq_ediv_of_nonneg _ (by omega)]; omega
    have ex : mx2 x = 2 * x % 2305843009213693951 := by
     show (i64 (2 * x)).tmod 2305843009213693951 = _
     rw [i64_id (by omega) (by omega), tmod_pos (by omega)]
    have hda : dg (2 * x % 2305843009213693951) := by unfold dg; omega
    have eb : bits .and .i64 (b : Int) 1 = i64 (((b % 2 : Nat)) : Int) := by
     show IntKind.i64.wrap _ = IntKind.i64.wrap _
     congr 1
     have := bit1 b
     exact congrArg Int.ofNat this
    rw [e2, ex, eb]
    rcases Nat.mod_two_eq_zero_or_one b with h | h
    · rw [h]
      have : (i64 ((0 : Nat) : Int) == 1) = false := by decide
      rw [this]
      simp only [cond_false]
      rw [mulF_eq n (b / 2) _ a hb2 (by omega) hda ⟨ha1, ha2⟩, step0 h]
    · rw [h]
      have : (i64 ((1 : Nat) : Int) == 1) = true := by decide
      rw [this]
      simp only [cond_true]
      have ea : madd a x = (a + x) % 2305843009213693951 := by
       show (i64 (a + x)).tmod 2305843009213693951 = _
       rw [i64_id (by omega) (by omega), tmod_pos (by omega)]
      rw [ea, mulF_eq n (b / 2) _ _ hb2 (by omega) hda (by unfold dg; omega), step1 h]
open Wp in
theorem nextF_eq {a s : Int} {f : Nat} (ha : dg a) (hs : 0 <= s /\ s <= 2305843009213693951) (hf : f < 1048576) : nextF a s f = (a * f % 2305843009213693951 + s) % 2305843009213693951 := by
 unfold nextF
 rw [mulF_eq 64 f a 0 (Nat.lt_trans hf (by decide)) (by omega) ha ⟨by omega, by omega⟩, Int.zero_add]
 show (i64 (_ + s)).tmod 2305843009213693951 = _
 rw [i64_id (by omega) (by omega), tmod_pos (by omega)]
open Wp in
theorem pairF_eq {x y : Int} (hx : dg x) (hy : dg y) : pairF x y = pr x y := by
 unfold pairF
 have e1 : nextF y 7 31 = (y * ((31 : Nat) : Int) % 2305843009213693951 + 7) % 2305843009213693951 := nextF_eq (f := 31) hy (by omega) (by omega)
 rw [e1]
 have e2 := nextF_eq (a := x) (s := (y * ((31 : Nat) : Int) % 2305843009213693951 + 7) % 2305843009213693951) (f := 1000003) hx (by omega) (by omega)
 refine e2.trans ?_
 unfold pr
 omega
def fo (t : List Int) : Int := t.foldl pr 0
theorem fold_dg : ∀ (t : List Int) (a : Int), dg a -> dg (t.foldl pr a)
 | [], a, h => h
 | x :: t, a, _ => fold_dg t _ (pr_dg a x)
theorem fo_dg (t : List Int) : dg (fo t) := fold_dg t 0 ⟨by omega, by omega⟩
theorem foldl_alike {f g : Int -> Int -> Int} {p : Int -> Prop} (hfg : ∀ a x, p a -> p x -> f a x = g a x) (hg : ∀ a x, p (g a x)) : ∀ (t : List Int) (a : Int), p a -> (∀ z ∈ t, p z) -> t.foldl f a = t.foldl g a
 | [], _, _, _ => rfl
 | x :: t, a, ha, h => by
  rw [List.foldl_cons, List.foldl_cons, hfg a x ha (h x (by simp))]
  exact foldl_alike hfg hg t _ (hg a x) fun z hz => h z (by simp [hz])
theorem foldF_eq (t : List Int) (a : Int) (ha : dg a) (h : ∀ z ∈ t, dg z) : t.foldl Wp.pairF a = t.foldl pr a := foldl_alike (p := dg) (fun a x ha hx => pairF_eq ha hx) (fun a x => pr_dg a x) t a ha h
theorem R_eq {tk : List (List Int)} {W : Int} (h : ∀ t ∈ tk, ∀ z ∈ t, dg z) : Pl.R tk W = tk.map fo := by
 unfold Pl.R
 exact List.map_congr_left fun t ht => foldF_eq t 0 ⟨by omega, by omega⟩ (h t ht)
set_option maxRecDepth 100000
theorem i64_succ {i : Nat} (h : i < 4611686018427387904) : i64 ((i : Int) + 1) = ((i + 1 : Nat) : Int) := by rw [i64_id (by omega) (by omega)]; rfl
theorem toNat_cast (i : Nat) : (i : Int).toNat = i := rfl
def fi (p : Int -> Bool) : List Int -> Nat -> Int
 | [], _ => -1
 | x :: l, i => if p x = true then (i : Int) else fi p l (i + 1)
theorem fi_any (p : Int -> Bool) : ∀ (l : List Int) (i : Nat), (decide (fi p l i ≥ 0)) = l.any p
 | [], i => rfl
 | x :: l, i => by
  unfold fi
  cases h : p x with
  | true => simp [h]
  | false => simp only [Bool.false_eq_true, if_false]; rw [fi_any p l (i + 1)]; simp [h]
def bad (n : Int) : Bool := decide (n < 0) || decide (n > 1000000000)
theorem ct1_ok {n : Int} {K : Bool -> Prop} (hK : K (bad n)) : L.c5 n K := by
 constructor
 unfold L.c5_B
 rw [bor]
 exact hK
theorem if2_loop {s : List Int} (hl : s.length < 1073741825) {K : Int -> Prop} : ∀ (fu i : Nat), i <= s.length -> s.length - i < fu -> K (fi bad (s.drop i) i) -> L.b2_L1_R s (s.length : Int) fu i (K (-1)) K
 | 0, i, _, h, _ => by omega
 | fu + 1, i, hi, h, hK => by
  show L.b2_L1_b s (s.length : Int) i _ _ _
  unfold L.b2_L1_b
  rcases Nat.lt_or_ge i s.length with g | g
  · rw [drop_cons (0 : Int) g] at hK
    unfold fi at hK
    refine cond_t (by simp; omega) ⟨inB_of (by omega) (by omega), ct1_ok ?_⟩
    rw [toNat_cast]
    cases e : bad (s.getD i 0) with
    | true => rw [e] at hK; exact hK
    | false =>
     rw [e] at hK
     simp only [cond_false]
     rw [i64_succ (by omega)]
     exact if2_loop hl fu (i + 1) (by omega) (by omega) (by simpa using hK)
  · rw [List.drop_eq_nil_of_le g] at hK
    exact cond_f (by simp; omega) hK
theorem cf_ok {s : List Int} (hl : s.length < 1073741825) {K : Bool -> Prop} (hK : K (s.any bad)) : L.c3 s K := by
 refine ⟨⟨⟨s.length + 1, if2_loop (K := fun r => K (decide (r ≥ 0))) hl _ 0 (by omega) (by omega) ?_⟩⟩⟩
 rw [fi_any]
 simpa using hK
theorem if3_loop {s : List Int} {c : Int} (hl : s.length < 1073741825) {K : Int -> Prop} : ∀ (fu i : Nat), i <= s.length -> s.length - i < fu -> K (fi (fun n => decide (n < c)) (s.drop i) i) -> L.a9_L1_R s c (s.length : Int) fu i (K (-1)) K
 | 0, i, _, h, _ => by omega
 | fu + 1, i, hi, h, hK => by
  show L.a9_L1_b s c (s.length : Int) i _ _ _
  unfold L.a9_L1_b
  rcases Nat.lt_or_ge i s.length with g | g
  · rw [drop_cons (0 : Int) g] at hK
    unfold fi at hK
    refine cond_t (by simp; omega) ⟨inB_of (by omega) (by omega), ⟨?_⟩⟩
    rw [toNat_cast]
    show bif decide (s.getD i 0 < c) then _ else _
    cases e : decide (s.getD i 0 < c) with
    | true => rw [e] at hK; exact hK
    | false =>
     rw [e] at hK
     simp only [cond_false]
     rw [i64_succ (by omega)]
     exact if3_loop hl fu (i + 1) (by omega) (by omega) (by simpa using hK)
  · rw [List.drop_eq_nil_of_le g] at hK
    exact cond_f (by simp; omega) hK
theorem if3_ok {s : List Int} {c : Int} (hl : s.length < 1073741825) {K : Int -> Prop} (hK : K (fi (fun n => decide (n < c)) s 0)) : L.a9 s c K :=
 ⟨⟨⟨s.length + 1, if3_loop hl _ 0 (by omega) (by omega) (by simpa using hK)⟩⟩⟩
def ck (t : List Int) : Int := if t.length > 40 then 2 else if t.any bad = true then 3 else 0
theorem ck_ok {t : List Int} {K : Int -> Prop} (hK : K (ck t)) : L.b6 t K := by
 constructor
 unfold L.b6_B
 unfold ck at hK
 by_cases h : t.length > 40
 · rw [if_pos h] at hK
   exact cond_t (by simp; omega) hK
 · rw [if_neg h] at hK
   refine cond_f (by simp; omega) (cf_ok (by omega) ?_)
   cases e : t.any bad with
   | true => rw [e] at hK; exact hK
   | false => rw [e] at hK; exact hK
def vl : List (List Int) -> Nat -> Int × Int
 | [], _ => (0, 0)
 | t :: ts, i => if ck t = 0 then vl ts (i + 1) else (ck t, (i : Int))
def val (tk : List (List Int)) (W : Int) : Int × Int := if W < 1 \/ W > 8 then (3, -2) else if tk.length > 24 then (2, -1) else vl tk 0
theorem vl_loop {ts : List (List Int)} (hl : ts.length <= 24) {K : Int -> Int -> Prop} : ∀ (fu i : Nat), i <= ts.length -> ts.length - i < fu -> K (vl (ts.drop i) i).1 (vl (ts.drop i) i).2 -> L.a4_L1_R ts (ts.length : Int) fu i (K 0 0) K
 | 0, i, _, h, _ => by omega
 | fu + 1, i, hi, h, hK => by
  show L.a4_L1_b ts (ts.length : Int) i _ _ _
  unfold L.a4_L1_b
  rcases Nat.lt_or_ge i ts.length with g | g
  · rw [drop_cons ([] : List Int) g] at hK
    unfold vl at hK
    refine cond_t (by simp; omega) ⟨inB_of (by omega) (by omega), ck_ok ?_⟩
    rw [toNat_cast]
    by_cases e : ck (ts.getD i []) = 0
    · rw [if_pos e] at hK
      refine cond_f (by rw [e]; rfl) ?_
      rw [i64_succ (by omega)]
      exact vl_loop hl fu (i + 1) (by omega) (by omega) hK
    · rw [if_neg e] at hK
      exact cond_t (by simpa using e) hK
  · rw [List.drop_eq_nil_of_le g] at hK
    exact cond_f (by simp; omega) hK
theorem val_ok {ts : List (List Int)} {W : Int} {K : Int -> Int -> Prop} (hK : K (val ts W).1 (val ts W).2) : L.a4 ts W K := by
 constructor
 unfold L.a4_B
 rw [bor]
 unfold val at hK
 by_cases h : W < 1 \/ W > 8
 · rw [if_pos h] at hK
   exact cond_t (by simpa using h) hK
 · rw [if_neg h] at hK
   refine cond_f (by simpa using h) ?_
   by_cases h2 : ts.length > 24
   · rw [if_pos h2] at hK
     exact cond_t (by simp; omega) hK
   · rw [if_neg h2] at hK
     exact cond_f (by simp; omega) ⟨⟨ts.length + 1, vl_loop (by omega) _ 0 (by omega) (by omega) (by simpa using hK)⟩⟩
theorem ck_nought {t : List Int} (h : ck t = 0) : t.length <= 40 /\ ∀ z ∈ t, 0 <= z /\ z <= 1000000000 := by
 unfold ck at h
 split at h
 · omega
 · split at h
   · omega
   · next h1 h2 =>
     refine ⟨by omega, fun z hz => ?_⟩
     have : bad z = false := by
      cases hb : bad z with
      | false => rfl
      | true => exact absurd (List.any_eq_true.2 ⟨z, hz, hb⟩) h2
     simp [bad] at this
     omega
theorem vl_nought : ∀ (ts : List (List Int)) (i : Nat), (vl ts i).1 = 0 -> vl ts i = (0, 0) /\ ∀ t ∈ ts, ck t = 0
 | [], i, _ => ⟨rfl, fun t ht => by simp at ht⟩
 | t :: ts, i, h => by
  unfold vl at h ⊢
  by_cases e : ck t = 0
  · rw [if_pos e] at h ⊢
    obtain ⟨h1, h2⟩ := vl_nought ts (i + 1) h
    exact ⟨h1, fun u hu => by rcases List.mem_cons.1 hu with rfl | hu; exact e; exact h2 u hu⟩
  · rw [if_neg e] at h
    exact absurd h e
structure Fine (ts : List (List Int)) (W : Int) : Prop where
 w1 : 1 <= W
 w8 : W <= 8
 len : ts.length <= 24
 ok : ∀ t ∈ ts, t.length <= 40 /\ ∀ z ∈ t, 0 <= z /\ z <= 1000000000
theorem val_nought {ts : List (List Int)} {W : Int} (h : (val ts W).1 = 0) : val ts W = (0, 0) /\ Fine ts W := by
 unfold val at h ⊢
 by_cases h1 : W < 1 \/ W > 8
 · rw [if_pos h1] at h; cases h
 · rw [if_neg h1] at h ⊢
   by_cases h2 : ts.length > 24
   · rw [if_pos h2] at h; cases h
   · rw [if_neg h2] at h ⊢
     obtain ⟨h3, h4⟩ := vl_nought ts 0 h
     exact ⟨h3, by omega, by omega, by omega, fun t ht => ck_nought (h4 t ht)⟩
theorem Fine.dg {ts : List (List Int)} {W : Int} (h : Fine ts W) : ∀ t ∈ ts, ∀ z ∈ t, Wt.dg z := fun t ht z hz => by
 have := (h.ok t ht).2 z hz
 unfold Wt.dg
 omega
theorem Fine.C {ts : List (List Int)} {W : Int} (h : Fine ts W) : Pl.C ts W := ⟨h.w1, h.w8, h.len, fun t ht => ⟨by have := (h.ok t ht).1; omega, fun z hz => by
 have := h.dg t ht z hz
 exact ⟨this.1, this.2⟩⟩⟩
theorem flt {a b : Int} : ((a == 0) && ((b == 0) && true)) = decide ((a, b) = (0, 0)) := by
 by_cases h1 : a = 0 <;> by_cases h2 : b = 0 <;> simp [h1, h2]
def fine (ts : List (List Int)) (W : Int) : Bool := decide (val ts W = (0, 0))
theorem fine_iff {ts : List (List Int)} {W : Int} : fine ts W = true ↔ (val ts W).1 = 0 := by
 unfold fine
 rw [decide_eq_true_eq]
 exact ⟨fun h => by rw [h], fun h => (val_nought h).1⟩
theorem fine_flt {ts : List (List Int)} {W : Int} : (((val ts W).1 == 0) && (((val ts W).2 == 0) && true)) = fine ts W := flt
def res (ts : List (List Int)) (W : Int) : List Int := if fine ts W = true then ts.map fo else []
theorem res_ok {ts : List (List Int)} {W : Int} {K : List Int -> Int -> Int -> Prop} (hK : K (res ts W) (val ts W).1 (val ts W).2) : L.c0 ts W K := by
 constructor
 unfold L.c0_B
 refine val_ok ?_
 rw [fine_flt]
 unfold res at hK
 cases e : fine ts W with
 | false =>
  rw [e] at hK
  exact cond_t rfl hK
 | true =>
  rw [e, if_pos rfl] at hK
  obtain ⟨h1, h2⟩ := val_nought (fine_iff.1 e)
  rw [h1] at hK
  refine cond_f rfl ⟨h2.C, ?_⟩
  rw [R_eq h2.dg]
  exact hK
theorem res_len (ts : List (List Int)) (W : Int) : (res ts W).length <= 24 := by
 unfold res
 split
 · next h => have := (val_nought (fine_iff.1 h)).2.len; simpa using this
 · simp
def fst (ts : List (List Int)) (W limit : Int) : Int × Int × Int := if fine ts W = true then (if limit < 0 \/ limit > 2305843009213693951 then (0, 3, -3) else
  (if fi (fun n => decide (n < limit)) (res ts W) 0 < 0 then (0, 6, -4) else (fi (fun n => decide (n < limit)) (res ts W) 0, 0, 0))) else (0, val ts W)
theorem fst_ok {ts : List (List Int)} {W limit : Int} {K : Int -> Int -> Int -> Prop} (hK : K (fst ts W limit).1 (fst ts W limit).2.1 (fst ts W limit).2.2) : L.b7 ts W limit K := by
 constructor
 unfold L.b7_B
 refine res_ok ?_
 rw [fine_flt, bor]
 unfold fst at hK
 cases e : fine ts W with
 | false => rw [e] at hK; exact cond_t rfl hK
 | true =>
  rw [e, if_pos rfl] at hK
  refine cond_f rfl ?_
  by_cases h : limit < 0 \/ limit > 2305843009213693951
  · rw [if_pos h] at hK
    exact cond_t (by simpa using h) hK
  · rw [if_neg h] at hK
    refine cond_f (by simpa using h) (if3_ok (by have := res_len ts W; omega) ?_)
    by_cases h2 : fi (fun n => decide (n < limit)) (res ts W) 0 < 0
    · rw [if_pos h2] at hK
      exact cond_t (by simpa using h2) hK
    · rw [if_neg h2] at hK
      exact cond_f (by simpa using h2) hK
theorem Equal_loop {a b : List Int} (hl : a.length < 1073741825) (he : a.length = b.length) {K : Bool -> Prop} : ∀ (fu i : Nat), i <= a.length -> a.length - i < fu -> K (decide (a.drop i = b.drop i)) -> L.a3_L1_R a b fu i (K true) K
 | 0, i, _, h, _ => by omega
 | fu + 1, i, hi, h, hK => by
  show L.a3_L1_b a b i _ _ _
  unfold L.a3_L1_b
  rcases Nat.lt_or_ge i a.length with g | g
  · rw [drop_cons (0 : Int) g, drop_cons (0 : Int) (l := b) (by omega)] at hK
    refine cond_t (by simp; omega) ⟨inB_of (by omega) (by omega), inB_of (by omega) (by omega), ?_⟩
    rw [toNat_cast]
    by_cases h1 : a.getD i 0 = b.getD i 0
    · refine cond_f (by rw [h1]; simp) ?_
      rw [i64_succ (by omega)]
      refine Equal_loop hl he fu (i + 1) (by omega) (by omega) ?_
      rw [h1] at hK
      simpa using hK
    · refine cond_t (by simpa using h1) ?_
      have : decide (a.getD i 0 :: a.drop (i + 1) = b.getD i 0 :: b.drop (i + 1)) = false := by simp; intro h2; exact absurd h2 h1
      rw [this] at hK; exact hK
  · rw [List.drop_eq_nil_of_le g, List.drop_eq_nil_of_le (by omega)] at hK
    exact cond_f (by simp; omega) (by simpa using hK)
theorem Equal_ok {a b : List Int} (hl : a.length < 1073741825) {K : Bool -> Prop} (hK : K (decide (a = b))) : L.a3 a b K := by
 constructor
 unfold L.a3_B
 by_cases h : a.length = b.length
 · refine cond_f (by simp; omega) ⟨⟨a.length + 1, Equal_loop hl h _ 0 (by omega) (by omega) ?_⟩⟩
   simpa using hK
 · refine cond_t (by simp; omega) ?_
   have : decide (a = b) = false := by simp; intro e; exact h (by rw [e])
   rw [this] at hK; exact hK
set_option maxRecDepth 100000
def mn (x : List Int) : Int := (x.drop 1).foldl amn (x.getD 0 0)
def mx (x : List Int) : Int := (x.drop 1).foldl amx (x.getD 0 0)
theorem amn_fold : ∀ (l : List Int) (a : Int), l.foldl amn a <= a /\ (∀ y ∈ l, l.foldl amn a <= y) /\ (l.foldl amn a = a \/ l.foldl amn a ∈ l)
 | [], a => ⟨Int.le_refl _, fun y hy => by simp at hy, .inl rfl⟩
 | x :: l, a => by
  obtain ⟨h1, h2, h3⟩ := amn_fold l (amn a x)
  simp only [List.foldl_cons]
  have hle : amn a x <= a /\ amn a x <= x /\ (amn a x = a \/ amn a x = x) := by unfold amn; split <;> omega
  refine ⟨by omega, fun y hy => ?_, ?_⟩
  · rcases List.mem_cons.1 hy with rfl | hy
    · omega
    · exact h2 y hy
  · rcases h3 with h3 | h3
    · rcases hle.2.2 with e | e
      · exact .inl (h3.trans e)
      · exact .inr (List.mem_cons.2 (.inl (h3.trans e)))
    · exact .inr (List.mem_cons_of_mem _ h3)
theorem amx_fold : ∀ (l : List Int) (a : Int), a <= l.foldl amx a /\ (∀ y ∈ l, y <= l.foldl amx a) /\ (l.foldl amx a = a \/ l.foldl amx a ∈ l)
 | [], a => ⟨Int.le_refl _, fun y hy => by simp at hy, .inl rfl⟩
 | x :: l, a => by
  obtain ⟨h1, h2, h3⟩ := amx_fold l (amx a x)
  simp only [List.foldl_cons]
  have hle : a <= amx a x /\ x <= amx a x /\ (amx a x = a \/ amx a x = x) := by unfold amx; split <;> omega
  refine ⟨by omega, fun y hy => ?_, ?_⟩
  · rcases List.mem_cons.1 hy with rfl | hy
    · omega
    · exact h2 y hy
  · rcases h3 with h3 | h3
    · rcases hle.2.2 with e | e
      · exact .inl (h3.trans e)
      · exact .inr (List.mem_cons.2 (.inl (h3.trans e)))
    · exact .inr (List.mem_cons_of_mem _ h3)
theorem mn_spec {x : List Int} (h : x ≠ []) : mn x ∈ x /\ ∀ y ∈ x, mn x <= y := by
 cases x with
 | nil => exact absurd rfl h
 | cons a l =>
  obtain ⟨h1, h2, h3⟩ := amn_fold l a
  refine ⟨?_, fun y hy => ?_⟩
  · rcases h3 with h3 | h3
    · exact List.mem_cons.2 (.inl h3)
    · exact List.mem_cons.2 (.inr h3)
  · rcases List.mem_cons.1 hy with rfl | hy
    · exact h1
    · exact h2 y hy
theorem mx_spec {x : List Int} (h : x ≠ []) : mx x ∈ x /\ ∀ y ∈ x, y <= mx x := by
 cases x with
 | nil => exact absurd rfl h
 | cons a l =>
  obtain ⟨h1, h2, h3⟩ := amx_fold l a
  refine ⟨?_, fun y hy => ?_⟩
  · rcases h3 with h3 | h3
    · exact List.mem_cons.2 (.inl h3)
    · exact List.mem_cons.2 (.inr h3)
  · rcases List.mem_cons.1 hy with rfl | hy
    · exact h1
    · exact h2 y hy
theorem mn_loop {x : List Int} (hl : x.length < 1073741825) {K : Int -> Prop} : ∀ (fu i : Nat) (m : Int), i <= x.length -> x.length - i < fu -> K ((x.drop i).foldl amn m) -> L.b1_L1_R x fu m i K
 | 0, i, m, _, h, _ => by omega
 | fu + 1, i, m, hi, h, hK => by
  show L.b1_L1_b x m i _ _
  unfold L.b1_L1_b
  rcases Nat.lt_or_ge i x.length with g | g
  · rw [drop_cons (0 : Int) g] at hK
    refine cond_t (by simp; omega) ⟨inB_of (by omega) (by omega), ?_⟩
    rw [toNat_cast, i64_succ (by omega)]
    exact mn_loop hl fu (i + 1) _ (by omega) (by omega) hK
  · rw [List.drop_eq_nil_of_le g] at hK
    exact cond_f (by simp; omega) hK
theorem mn_ok {x : List Int} (h1 : 1 <= x.length) (hl : x.length < 1073741825) {K : Int -> Prop} (hK : K (mn x)) : L.b1 x K := by
 constructor
 unfold L.b1_B
 exact cond_f (by simp; omega) ⟨inB_of (by omega) (by omega), ⟨⟨x.length + 1, mn_loop hl _ 1 _ h1 (by omega) hK⟩⟩⟩
theorem mx_loop {x : List Int} (hl : x.length < 1073741825) {K : Int -> Prop} : ∀ (fu i : Nat) (m : Int), i <= x.length -> x.length - i < fu -> K ((x.drop i).foldl amx m) -> L.a8_L1_R x fu m i K
 | 0, i, m, _, h, _ => by omega
 | fu + 1, i, m, hi, h, hK => by
  show L.a8_L1_b x m i _ _
  unfold L.a8_L1_b
  rcases Nat.lt_or_ge i x.length with g | g
  · rw [drop_cons (0 : Int) g] at hK
    refine cond_t (by simp; omega) ⟨inB_of (by omega) (by omega), ?_⟩
    rw [toNat_cast, i64_succ (by omega)]
    exact mx_loop hl fu (i + 1) _ (by omega) (by omega) hK
  · rw [List.drop_eq_nil_of_le g] at hK
    exact cond_f (by simp; omega) hK
theorem mx_ok {x : List Int} (h1 : 1 <= x.length) (hl : x.length < 1073741825) {K : Int -> Prop} (hK : K (mx x)) : L.a8 x K := by
 constructor
 unfold L.a8_B
 exact cond_f (by simp; omega) ⟨inB_of (by omega) (by omega), ⟨⟨x.length + 1, mx_loop hl _ 1 _ h1 (by omega) hK⟩⟩⟩
def pos (c : Int) (l : List Int) : Int := fi (fun n => c == n) l 0
theorem pos_loop {s : List Int} {c : Int} (hl : s.length < 1073741825) {K : Int -> Prop} : ∀ (fu i : Nat), i <= s.length -> s.length - i < fu -> K (fi (fun n => c == n) (s.drop i) i) -> L.b4_L1_R s c (s.length : Int) fu i (K (-1)) K
 | 0, i, _, h, _ => by omega
 | fu + 1, i, hi, h, hK => by
  show L.b4_L1_b s c (s.length : Int) i _ _ _
  unfold L.b4_L1_b
  rcases Nat.lt_or_ge i s.length with g | g
  · rw [drop_cons (0 : Int) g] at hK
    unfold fi at hK
    refine cond_t (by simp; omega) ⟨inB_of (by omega) (by omega), ?_⟩
    rw [toNat_cast]
    cases e : (c == s.getD i 0) with
    | true => rw [e] at hK; exact hK
    | false =>
     rw [e] at hK
     simp only [cond_false]
     rw [i64_succ (by omega)]
     exact pos_loop hl fu (i + 1) (by omega) (by omega) (by simpa using hK)
  · rw [List.drop_eq_nil_of_le g] at hK
    exact cond_f (by simp; omega) hK
theorem pos_ok {s : List Int} {c : Int} (hl : s.length < 1073741825) {K : Int -> Prop} (hK : K (pos c s)) : L.b4 s c K :=
 ⟨⟨⟨s.length + 1, pos_loop hl _ 0 (by omega) (by omega) (by rw [List.drop_zero]; exact hK)⟩⟩⟩
theorem fi_spec (p : Int -> Bool) : ∀ (l : List Int) (i : Nat), (∃ y ∈ l, p y = true) -> ∃ j, j < l.length /\ fi p l i = ((i + j : Nat) : Int) /\ p (l.getD j 0) = true /\ ∀ j', j' < j -> p (l.getD j' 0) = false
 | [], i, ⟨y, hy, _⟩ => by simp at hy
 | x :: l, i, ⟨y, hy, hp⟩ => by
  unfold fi
  cases e : p x with
  | true => exact ⟨0, by simp, by simp, e, fun j' h => by omega⟩
  | false =>
   have : ∃ y ∈ l, p y = true := by
    rcases List.mem_cons.1 hy with rfl | hy
    · rw [e] at hp; cases hp
    · exact ⟨y, hy, hp⟩
   obtain ⟨j, h1, h2, h3, h4⟩ := fi_spec p l (i + 1) this
   refine ⟨j + 1, by simp; omega, ?_, h3, fun j' hj => ?_⟩
   · simp only [Bool.false_eq_true, if_false]
     rw [h2]
     congr 1
     omega
   · cases j' with
     | zero => exact e
     | succ j' => exact h4 j' (by omega)
def lst (x : List Int) : Nat := (pos (mn x) x).toNat
theorem lst_spec {x : List Int} (h : x ≠ []) : lst x < x.length /\ pos (mn x) x = ((lst x : Nat) : Int) /\ x.getD (lst x) 0 = mn x /\ ∀ j, j < lst x -> x.getD j 0 ≠ mn x := by
 obtain ⟨j, h1, h2, h3, h4⟩ := fi_spec (fun n => mn x == n) x 0 ⟨mn x, (mn_spec h).1, by simp⟩
 have e : pos (mn x) x = (j : Int) := by unfold pos; rw [h2]; congr 1; omega
 have el : lst x = j := by unfold lst; rw [e]; rfl
 rw [el]
 exact ⟨h1, e, (by simpa using h3 : mn x = x.getD j 0).symm, fun j' hj he => by have := h4 j' hj; rw [he] at this; simp at this⟩
def stp (p : Int) (s : List Int × List Int) : List Int × List Int := (s.1.set (lst s.1) (s.1.getD (lst s.1) 0 + p), s.2 ++ [((lst s.1 : Nat) : Int)])
def wt (t : List Int) : Int := (t.length : Int) + 1
def sched (ts : List (List Int)) (s : List Int × List Int) : List Int × List Int := ts.foldl (fun s t => stp (wt t) s) s
structure TInv (W i : Nat) (s : List Int × List Int) : Prop where
 len : s.1.length = W
 bnd : ∀ x ∈ s.1, 0 <= x /\ x <= 41 * (i : Int)
 out : s.2.length = i
theorem mem_set {l : List Int} {j : Nat} {v x : Int} (h : x ∈ l.set j v) : x ∈ l \/ x = v := by
 rcases List.mem_or_eq_of_mem_set h with h | h
 · exact .inl h
 · exact .inr h
theorem TInv.step {W i : Nat} {s : List Int × List Int} {t : List Int} (h : TInv W i s) (hW : 1 <= W) (ht : t.length <= 40) : TInv W (i + 1) (stp (wt t) s) := by
 have hne : s.1 ≠ [] := fun e => by have := h.len; rw [e] at this; simp at this; omega
 obtain ⟨h1, h2, h3, h4⟩ := lst_spec hne
 have hm := h.bnd _ (mn_spec hne).1
 refine ⟨by simp [stp, h.len], fun x hx => ?_, by simp [stp, h.out]⟩
 rcases mem_set hx with hx | hx
 · have := h.bnd x hx; omega
 · rw [h3] at hx
   unfold wt at hx
   omega
theorem as_loop {ts : List (List Int)} {W : Nat} (hW : 1 <= W) (hW8 : W <= 8) (hl : ts.length <= 24) (ht : ∀ t ∈ ts, t.length <= 40) {K : List Int -> List Int -> Prop} : ∀ (fu i : Nat) (s : List Int × List Int), i <= ts.length -> ts.length - i < fu -> TInv W i s ->
  K (sched (ts.drop i) s).1 (sched (ts.drop i) s).2 -> L.a6_L1_R ts (ts.length : Int) fu i s.1 s.2 K
 | 0, i, s, _, h, _, _ => by omega
 | fu + 1, i, s, hi, h, hT, hK => by
  show L.a6_L1_b ts (ts.length : Int) i s.1 s.2 _ _
  unfold L.a6_L1_b
  rcases Nat.lt_or_ge i ts.length with g | g
  · rw [drop_cons ([] : List Int) g] at hK
    have hne : s.1 ≠ [] := fun e => by have := hT.len; rw [e] at this; simp at this; omega
    have hlen := hT.len
    obtain ⟨h1, h2, h3, h4⟩ := lst_spec hne
    have htl := ht _ (getD_mem ([] : List Int) g)
    have hm := hT.bnd _ (mn_spec hne).1
    refine cond_t (by simp; omega) ⟨inB_of (by omega) (by omega), mn_ok (by omega) (by omega) (pos_ok (by omega) ?_)⟩
    rw [h2]
    refine ⟨inB_of (by omega) (by omega), inB_of (by omega) (by omega), fits_of (by have := hT.out; simp; omega), ?_⟩
    rw [toNat_cast, toNat_cast, i64_succ (by omega), i64_id (n := ((ts.getD i []).length : Int) + 1) (by omega) (by omega), h3, i64_id (by omega) (by omega)]
    have := as_loop hW hW8 hl ht (K := K) fu (i + 1) (stp (wt (ts.getD i [])) s) (by omega) (by omega) (hT.step hW htl) hK
    unfold stp at this
    rw [h3] at this
    exact this
  · rw [List.drop_eq_nil_of_le g] at hK
    exact cond_f (by simp; omega) hK
def asg (ts : List (List Int)) (W : Int) : List Int × List Int := sched ts (List.replicate W.toNat 0, [])
theorem sched_T {W : Nat} (hW : 1 <= W) : ∀ (ts : List (List Int)) (i : Nat) (s : List Int × List Int), (∀ t ∈ ts, t.length <= 40) -> TInv W i s -> TInv W (i + ts.length) (sched ts s)
 | [], i, s, _, h => h
 | t :: ts, i, s, ht, h => by
  have := sched_T hW ts (i + 1) _ (fun u hu => ht u (by simp [hu])) (h.step hW (ht t (by simp)))
  rw [List.length_cons, show i + (ts.length + 1) = i + 1 + ts.length by omega]
  exact this
theorem start_T (W : Nat) : TInv W 0 (List.replicate W 0, []) := ⟨by simp, fun x hx => by rw [(List.mem_replicate.1 hx).2]; simp, rfl⟩
def asn (ts : List (List Int)) (W : Int) : List Int × Int := if fine ts W = true then ((asg ts W).2, mx (asg ts W).1) else ([], 0)
theorem asn_ok {ts : List (List Int)} {W : Int} {K : List Int -> Int -> Int -> Int -> Prop} (hK : K (asn ts W).1 (asn ts W).2 (val ts W).1 (val ts W).2) : L.a6 ts W K := by
 constructor
 unfold L.a6_B
 refine val_ok ?_
 rw [fine_flt]
 unfold asn at hK
 cases e : fine ts W with
 | false => rw [e] at hK; exact cond_t rfl hK
 | true =>
  rw [e, if_pos rfl] at hK
  obtain ⟨h1, h2⟩ := val_nought (fine_iff.1 e)
  rw [h1] at hK
  have w1 := h2.w1
  have w8 := h2.w8
  refine cond_f rfl ⟨⟨by omega, by omega, by omega⟩, ?_⟩
  have hT := sched_T (W := W.toNat) (by omega) ts 0 _ (fun t ht => (h2.ok t ht).1) (start_T W.toNat)
  refine ⟨⟨ts.length + 1, as_loop (W := W.toNat) (K := fun times out => L.a8 times fun r => K out r 0 0) (by omega) (by omega) h2.len (fun t ht => (h2.ok t ht).1) (ts.length + 1) 0 (List.replicate W.toNat 0, []) (by omega) (by omega) (start_T _) ?_⟩⟩
  rw [List.drop_zero]
  have hl := hT.len
  exact mx_ok (by show 1 <= (asg ts W).1.length; unfold asg; omega) (by unfold asg at *; omega) hK
theorem ex_ok {K : Bool -> Prop} (hK : K true) : L.c4 K := by
 constructor
 unfold L.c4_B
 refine res_ok (fst_ok (asn_ok ?_))
 have e1 : res [[], [5]] 2 = [0, 162] := by decide +kernel
 have e2 : fst [[5], []] 2 1 = (1, 0, 0) := by decide +kernel
 have e3 : asn [[], [], []] 2 = ([0, 1, 0], 2) := by decide +kernel
 have e4 : val [[], [5]] 2 = (0, 0) := by decide +kernel
 have e5 : val [[], [], []] 2 = (0, 0) := by decide +kernel
 rw [e1, e2, e3, e4, e5]
 refine ⟨fun _ => inB_of (by decide) (by decide), fun _ => inB_of (by decide) (by decide), ?_⟩
 refine cond_t (by decide) (refPair_ok ⟨by omega, by omega⟩ ⟨by omega, by omega⟩ ?_)
 have e6 : pr 0 5 = 162 := by decide +kernel
 rw [e6]
 refine cond_t (by decide) (Equal_ok (by decide) ?_)
 exact hK
set_option maxRecDepth 100000
set_option maxRecDepth 100000
theorem fold_loop {t : List Int} (hl : t.length < 1073741825) (hd : ∀ z ∈ t, dg z) {K : Int -> Prop} : ∀ (fu i : Nat) (a : Int), i <= t.length -> t.length - i < fu -> dg a -> K ((t.drop i).foldl pr a) -> L.b3_L1_R t (t.length : Int) fu a i K
 | 0, i, a, _, h, _, _ => by omega
 | fu + 1, i, a, hi, h, ha, hK => by
  show L.b3_L1_b t (t.length : Int) a i _ _
  unfold L.b3_L1_b
  rcases Nat.lt_or_ge i t.length with g | g
  · rw [drop_cons (0 : Int) g] at hK
    refine cond_t (by simp; omega) ⟨inB_of (by omega) (by omega), ?_⟩
    rw [toNat_cast]
    refine Pair_ok ha (hd _ (getD_mem (0 : Int) g)) ?_
    rw [i64_succ (i := i) (by omega)]
    exact fold_loop hl hd fu (i + 1) _ (by omega) (by omega) (pr_dg _ _) hK
  · rw [List.drop_eq_nil_of_le g] at hK
    exact cond_f (by simp; omega) hK
theorem wfold_ok {t : List Int} (hl : t.length < 1073741825) (hd : ∀ z ∈ t, dg z) {K : Int -> Prop} (hK : K (fo t)) : L.b3 t K :=
 ⟨⟨⟨t.length + 1, fold_loop hl hd _ 0 0 (by omega) (by omega) ⟨by omega, by omega⟩ hK⟩⟩⟩
theorem res_dg (ts : List (List Int)) (W : Int) : ∀ z ∈ res ts W, dg z := by
 intro z hz
 unfold res at hz
 split at hz
 · obtain ⟨t, _, rfl⟩ := List.mem_map.1 hz
   exact fo_dg t
 · simp at hz
def tot (ts : List (List Int)) (W : Int) : Int := if fine ts W = true then fo (res ts W) else 0
theorem tot_ok {ts : List (List Int)} {W : Int} {K : Int -> Int -> Int -> Prop} (hK : K (tot ts W) (val ts W).1 (val ts W).2) : L.c6 ts W K := by
 constructor
 unfold L.c6_B
 refine res_ok ?_
 rw [fine_flt]
 unfold tot at hK
 cases e : fine ts W with
 | false => rw [e] at hK; exact cond_t rfl hK
 | true =>
  rw [e, if_pos rfl] at hK
  have h1 := (val_nought (fine_iff.1 e)).1
  rw [h1] at hK
  exact cond_f rfl (wfold_ok (by have := res_len ts W; omega) (res_dg ts W) hK)
theorem res_fine {ts : List (List Int)} {W : Int} (h : (val ts W).1 = 0) : res ts W = ts.map fo := by unfold res; rw [if_pos (fine_iff.2 h)]
theorem fi_ge (p : Int -> Bool) : ∀ (l : List Int) (i : Nat), fi p l i = -1 \/ (i : Int) <= fi p l i
 | [], i => .inl rfl
 | x :: l, i => by
  unfold fi
  split
  · exact .inr (Int.le_refl _)
  · rcases fi_ge p l (i + 1) with h | h
    · exact .inl h
    · exact .inr (by omega)
set_option maxRecDepth 100000
theorem tf2_loop {ts : List (List Int)} {i : Nat} (hi : i < ts.length) (hl : (ts.getD i []).length <= 40) {K0 : Prop} {K : Int -> Int -> Prop} (hK : bif (ts.getD i []).any bad then K 3 i else K0) : ∀ (fu k : Nat), k <= (ts.getD i []).length -> (ts.getD i []).length - k < fu ->
  ((ts.getD i []).any bad = ((ts.getD i []).drop k).any bad) -> L.a1_L2_R ts i fu k K0 K
 | 0, k, _, h, _ => by omega
 | fu + 1, k, hk, h, he => by
  show L.a1_L2_b ts i k _ _ _
  unfold L.a1_L2_b
  simp only [toNat_cast]
  refine ⟨inB_of (by omega) (by omega), ?_⟩
  rcases Nat.lt_or_ge k (ts.getD i []).length with g | g
  · rw [drop_cons (0 : Int) g, List.any_cons] at he
    refine cond_t (by rw [decide_eq_true_eq]; omega) ⟨inB_of (by omega) (by omega), inB_of (by omega) (by omega), fun _ => inB_of (by omega) (by omega), fun _ => inB_of (by omega) (by omega), ?_⟩
    rw [bor]
    have eb : (decide ((ts.getD i []).getD k 0 < 0) || decide ((ts.getD i []).getD k 0 > 1000000000)) = bad ((ts.getD i []).getD k 0) := rfl
    rw [eb]
    cases e : bad ((ts.getD i []).getD k 0) with
    | true =>
     rw [e, Bool.true_or] at he
     rw [he] at hK
     exact ⟨hK⟩
    | false =>
     rw [e, Bool.false_or] at he
     simp only [cond_false]
     rw [i64_succ (i := k) (by omega)]
     exact tf2_loop hi hl hK fu (k + 1) (by omega) (by omega) he
  · rw [List.drop_eq_nil_of_le g] at he
    rw [he] at hK
    exact cond_f (by rw [decide_eq_false_iff_not]; omega) hK
theorem tf1_loop {ts : List (List Int)} (hl : ts.length <= 24) {K : Int -> Int -> Prop} : ∀ (fu i : Nat), i <= ts.length -> ts.length - i < fu -> K (vl (ts.drop i) i).1 (vl (ts.drop i) i).2 -> L.a1_L1_R ts fu i (L.b9 0 0 K) K
 | 0, i, _, h, _ => by omega
 | fu + 1, i, hi, h, hK => by
  show L.a1_L1_b ts i _ _ _
  unfold L.a1_L1_b
  rcases Nat.lt_or_ge i ts.length with g | g
  · rw [drop_cons ([] : List Int) g] at hK
    unfold vl at hK
    refine cond_t (by rw [decide_eq_true_eq]; omega) ⟨inB_of (by omega) (by omega), ?_⟩
    rw [toNat_cast, i64_succ (i := i) (by omega)]
    by_cases h40 : (ts.getD i []).length > 40
    · have e : ck (ts.getD i []) = 2 := by unfold ck; rw [if_pos h40]
      rw [e, if_neg (by decide)] at hK
      exact cond_t (by rw [decide_eq_true_eq]; omega) ⟨hK⟩
    · refine cond_f (by rw [decide_eq_false_iff_not]; omega) ⟨⟨(ts.getD i []).length + 1, tf2_loop g (by omega) ?_ _ 0 (by omega) (by omega) rfl⟩⟩
      cases e : (ts.getD i []).any bad with
      | true =>
       have e2 : ck (ts.getD i []) = 3 := by unfold ck; rw [if_neg h40, if_pos e]
       rw [e2, if_neg (by decide)] at hK
       exact hK
      | false =>
       have e2 : ck (ts.getD i []) = 0 := by unfold ck; rw [if_neg h40, e]; rfl
       rw [e2, if_pos rfl] at hK
       exact tf1_loop hl fu (i + 1) (by omega) (by omega) hK
  · rw [List.drop_eq_nil_of_le g] at hK
    exact cond_f (by rw [decide_eq_false_iff_not]; omega) ⟨hK⟩
theorem tf_ok {ts : List (List Int)} {W : Int} {K : Int -> Int -> Prop} (hK : K (val ts W).1 (val ts W).2) : L.a1 ts W K := by
 constructor
 unfold L.a1_B
 rw [bor]
 unfold val at hK
 by_cases h : W < 1 \/ W > 8
 · rw [if_pos h] at hK
   exact cond_t (by simpa using h) ⟨hK⟩
 · rw [if_neg h] at hK
   refine cond_f (by simpa using h) ?_
   by_cases h2 : ts.length > 24
   · rw [if_pos h2] at hK
     exact cond_t (by rw [decide_eq_true_eq]; omega) ⟨hK⟩
   · rw [if_neg h2] at hK
     exact cond_f (by rw [decide_eq_false_iff_not]; omega) ⟨⟨ts.length + 1, tf1_loop (by omega) _ 0 (by omega) (by omega) (by rw [List.drop_zero]; exact hK)⟩⟩
theorem fo_snoc (l : List Int) (x : Int) : fo (l ++ [x]) = pr (fo l) x := by unfold fo; rw [List.foldl_append]; rfl
theorem rf_loop : ∀ (n : Nat) (l : List Int), l.length = n -> n < 1073741825 -> (∀ z ∈ l, dg z) -> ∀ {K : Int -> Prop}, K (fo l) -> L.b8_R (n + 1) l K
 | 0, l, hl, _, _, K, hK => by
  obtain rfl := List.length_eq_zero_iff.1 hl
  show L.b8_B [] _ K
  unfold L.b8_B
  exact cond_t rfl hK
 | n + 1, l, hl, hn, hd, K, hK => by
  show L.b8_B l _ K
  unfold L.b8_B
  have e1 : i64 ((l.length : Int) - 1) = (n : Int) := by rw [i64_id (by omega) (by omega)]; omega
  rw [e1]
  simp only [toNat_cast]
  refine cond_f (by rw [beq_eq_false_iff_ne]; omega) ⟨⟨by omega, by omega⟩, ?_⟩
  refine rf_loop n (l.take n) (by rw [List.length_take]; omega) (by omega) (fun z hz => hd z (List.mem_of_mem_take hz)) ⟨inB_of (by omega) (by omega), refPair_ok (fo_dg _) (hd _ (getD_mem (0 : Int) (by omega))) ?_⟩
  have e2 : l = l.take n ++ [l.getD n 0] := by
   rw [<- take_snoc (0 : Int) (by omega)]
   exact (List.take_of_length_le (by omega)).symm
  rw [<- fo_snoc, <- e2]
  exact hK
theorem rf_ok {l : List Int} (hl : l.length < 1073741825) (hd : ∀ z ∈ l, dg z) {K : Int -> Prop} (hK : K (fo l)) : L.b8 l K := ⟨⟨l.length + 1, rf_loop l.length l rfl hl hd hK⟩⟩
def tl : List Int -> List (List Int) -> Int -> Int
 | b :: bs, t :: ts, w => (if b = w then wt t else 0) + tl bs ts w
 | _, _, _ => 0
theorem tl_snoc : ∀ (bs : List Int) (ts : List (List Int)) (b w : Int), bs.length < ts.length -> tl (bs ++ [b]) ts w = tl bs ts w + (if b = w then wt (ts.getD bs.length []) else 0)
 | [], t :: ts, b, w, _ => by simp [tl]
 | a :: bs, t :: ts, b, w, h => by
  rw [List.cons_append]
  unfold tl
  rw [tl_snoc bs ts b w (by simpa using h)]
  rw [List.length_cons, List.getD_cons_succ]
  omega
theorem tt_loop {ts : List (List Int)} {bs : List Int} {w : Int} (hl : ts.length <= 24) (ht : ∀ t ∈ ts, t.length <= 40) (ha : bs.length <= ts.length) {K : Int -> Prop} : ∀ (fu i : Nat) (a : Int), i <= bs.length -> bs.length - i < fu -> 0 <= a /\ a <= 41 * (i : Int) -> K (a + tl (bs.drop i) (ts.drop i) w) -> L.a7_L1_R ts bs w fu a i K
 | 0, i, a, _, h, _, _ => by omega
 | fu + 1, i, a, hi, h, hb, hK => by
  show L.a7_L1_b ts bs w a i _ _
  unfold L.a7_L1_b
  rcases Nat.lt_or_ge i bs.length with g | g
  · rw [drop_cons (0 : Int) g, drop_cons ([] : List Int) (l := ts) (by omega)] at hK
    unfold tl at hK
    have htl := ht _ (getD_mem ([] : List Int) (l := ts) (i := i) (by omega))
    refine cond_t (by rw [decide_eq_true_eq]; omega) ⟨inB_of (by omega) (by omega), ?_⟩
    rw [toNat_cast, i64_succ (i := i) (by omega)]
    by_cases e : bs.getD i 0 = w
    · rw [if_pos e] at hK
      refine cond_t (by simpa using e) ⟨inB_of (by omega) (by omega), ?_⟩
      rw [i64_id (n := ((ts.getD i []).length : Int) + 1) (by omega) (by omega), i64_id (by omega) (by omega)]
      refine tt_loop hl ht ha fu (i + 1) _ (by omega) (by omega) (by omega) ?_
      unfold wt at hK
      rw [Int.add_assoc]
      exact hK
    · rw [if_neg e, Int.zero_add] at hK
      exact cond_f (by simpa using e) (tt_loop hl ht ha fu (i + 1) _ (by omega) (by omega) (by omega) hK)
  · have : tl (bs.drop i) (ts.drop i) w = 0 := by rw [List.drop_eq_nil_of_le g]; rfl
    rw [this, Int.add_zero] at hK
    exact cond_f (by rw [decide_eq_false_iff_not]; omega) hK
theorem tt_ok {ts : List (List Int)} {bs : List Int} {w : Int} (hl : ts.length <= 24) (ht : ∀ t ∈ ts, t.length <= 40) (ha : bs.length <= ts.length) {K : Int -> Prop} (hK : K (tl bs ts w)) : L.a7 ts bs w K :=
 ⟨⟨⟨bs.length + 1, tt_loop hl ht ha _ 0 0 (by omega) (by omega) (by omega) (by rw [List.drop_zero, List.drop_zero, Int.zero_add]; exact hK)⟩⟩⟩
structure Tm (ts : List (List Int)) (W k : Nat) (s : List Int × List Int) : Prop where
 inv : TInv W k s
 eq : ∀ j, j < W -> s.1.getD j 0 = tl s.2 ts (j : Int)
theorem getD_set_eq {l : List Int} {i j : Nat} {v : Int} (hi : i < l.length) : (l.set i v).getD j 0 = if i = j then v else l.getD j 0 := by
 rw [List.getD_eq_getElem?_getD, List.getElem?_set]
 by_cases e : i = j
 · subst e; simp [hi]
 · simp [e, List.getD_eq_getElem?_getD]
theorem Tm.step {ts : List (List Int)} {W k : Nat} {s : List Int × List Int} (h : Tm ts W k s) (hW : 1 <= W) (hk : k < ts.length) (ht : ∀ t ∈ ts, t.length <= 40) : Tm ts W (k + 1) (stp (wt (ts.getD k [])) s) := by
 have hne : s.1 ≠ [] := fun e => by have := h.inv.len; rw [e] at this; simp at this; omega
 obtain ⟨h1, h2, h3, h4⟩ := lst_spec hne
 refine ⟨h.inv.step hW (ht _ (getD_mem ([] : List Int) hk)), fun j hj => ?_⟩
 show (s.1.set _ _).getD j 0 = tl (s.2 ++ [((lst s.1 : Nat) : Int)]) ts j
 rw [getD_set_eq h1, tl_snoc _ _ _ _ (by rw [h.inv.out]; exact hk), h.inv.out]
 by_cases e : lst s.1 = j
 · subst e
   rw [if_pos rfl, if_pos rfl, h.eq _ hj]
 · rw [if_neg e, if_neg (by omega), h.eq _ hj, Int.add_zero]
theorem bs_loop {ts : List (List Int)} {W k : Nat} {s : List Int × List Int} (h : Tm ts W k s) (hW : 1 <= W) (hW8 : W <= 8) (hk : k <= ts.length) (hl : ts.length <= 24) (ht : ∀ t ∈ ts, t.length <= 40) {K : Int -> Prop} (hK : K ((lst s.1 : Nat) : Int)) :
  ∀ (fu : Nat) (w : Int) (b : Nat), -1 <= w -> w < (W : Int) -> w + 1 < (fu : Int) -> (b = 0 \/ w < (b : Int)) -> b < W -> (∀ j : Nat, w < (j : Int) -> j < W -> s.1.getD b 0 <= s.1.getD j 0) -> (∀ j : Nat, w < (j : Int) -> j < b -> s.1.getD b 0 < s.1.getD j 0) -> L.a2_L2_R ts s.2 fu b w K
 | 0, w, b, _, _, h3, _, _, _, _ => by omega
 | fu + 1, w, b, h1, h2, h3, h4, h5, h6, h7 => by
  show L.a2_L2_b ts s.2 b w _ _
  unfold L.a2_L2_b
  by_cases hw : w ≥ 0
  · obtain ⟨v, rfl⟩ : ∃ v : Nat, w = (v : Int) := ⟨w.toNat, by omega⟩
    have e1 := h.eq v (by omega)
    have e2 := h.eq b h5
    have hlen : s.2.length <= ts.length := by rw [h.inv.out]; exact hk
    refine cond_t (decide_eq_true hw) (tt_ok hl ht hlen (tt_ok hl ht hlen ?_))
    rw [<- e1, <- e2, i64_id (n := (v : Int) - 1) (by omega) (by omega)]
    by_cases hle : s.1.getD v 0 <= s.1.getD b 0
    · refine cond_t (decide_eq_true hle) (bs_loop h hW hW8 hk hl ht hK fu ((v : Int) - 1) v (by omega) (by omega) (by omega) (.inr (by omega)) (by omega) (fun j g1 g2 => ?_) fun j g1 g2 => by omega)
      rcases Nat.lt_or_ge v j with g | g
      · exact Int.le_trans hle (h6 j (by omega) g2)
      · obtain rfl : j = v := by omega
        exact Int.le_refl _
    · refine cond_f (decide_eq_false hle) (bs_loop h hW hW8 hk hl ht hK fu ((v : Int) - 1) b (by omega) (by omega) (by omega) (h4.imp id fun h => by omega) h5 (fun j g1 g2 => ?_) fun j g1 g2 => ?_)
      · rcases Nat.lt_or_ge v j with g | g
        · exact h6 j (by omega) g2
        · obtain rfl : j = v := by omega
          omega
      · rcases Nat.lt_or_ge v j with g | g
        · exact h7 j (by omega) g2
        · obtain rfl : j = v := by omega
          omega
  · refine cond_f (decide_eq_false hw) ?_
    have hne : s.1 ≠ [] := fun e => by have := h.inv.len; rw [e] at this; simp at this; omega
    obtain ⟨q1, q2, q3, q4⟩ := lst_spec hne
    have hmm := mn_spec hne
    rw [h.inv.len] at q1
    have hb : mn s.1 <= s.1.getD b 0 := hmm.2 _ (getD_mem (0 : Int) (by rw [h.inv.len]; exact h5))
    have : b = lst s.1 := by
     rcases Nat.lt_trichotomy b (lst s.1) with g | g | g
     · have := q4 b g
       have := h6 (lst s.1) (by omega) q1
       rw [q3] at this
       omega
     · exact g
     · have := h7 (lst s.1) (by omega) g
       rw [q3] at this
       omega
    rw [this]
    exact hK
theorem ag_loop {ts : List (List Int)} {W : Nat} (hW : 1 <= W) (hW8 : W <= 8) (hl : ts.length <= 24) (ht : ∀ t ∈ ts, t.length <= 40) {K : List Int -> Prop} : ∀ (fu k : Nat) (s : List Int × List Int), k <= ts.length -> ts.length - k < fu -> Tm ts W k s -> K (sched (ts.drop k) s).2 -> L.a2_L1_R ts (W : Int) fu s.2 K
 | 0, k, s, _, h, _, _ => by omega
 | fu + 1, k, s, hk, h, hT, hK => by
  show L.a2_L1_b ts (W : Int) s.2 _ _
  unfold L.a2_L1_b
  have ho := hT.inv.out
  rcases Nat.lt_or_ge k ts.length with g | g
  · rw [drop_cons ([] : List Int) g] at hK
    refine cond_t (by rw [decide_eq_true_eq]; omega) ?_
    rw [i64_id (n := (W : Int) - 1) (by omega) (by omega)]
    refine ⟨⟨W + 1, bs_loop (K := fun best => (fits (s.2.length + ([best] : List Int).length)) /\ L.a2_L1_R ts (W : Int) fu (s.2 ++ ([best] : List Int)) K) hT hW hW8 hk hl ht ⟨fits_of (by simp; omega), ?_⟩ (W + 1) ((W : Int) - 1) 0 (by omega) (by omega) (by omega) (.inl rfl) (by omega) (fun j g1 g2 => by omega) fun j g1 g2 => by omega⟩⟩
    exact ag_loop hW hW8 hl ht fu (k + 1) _ (by omega) (by omega) (hT.step hW g ht) hK
  · rw [List.drop_eq_nil_of_le g] at hK
    exact cond_f (by rw [decide_eq_false_iff_not]; omega) hK
theorem start_Tm (ts : List (List Int)) (W : Nat) : Tm ts W 0 (List.replicate W 0, []) := ⟨start_T W, fun j hj => by simp [tl, List.getD_eq_getElem?_getD, hj]⟩
theorem ag_ok {ts : List (List Int)} {W : Nat} (hW : 1 <= W) (hW8 : W <= 8) (hl : ts.length <= 24) (ht : ∀ t ∈ ts, t.length <= 40) {K : List Int -> Prop} (hK : K (asg ts (W : Int)).2) : L.a2 ts (W : Int) K :=
 ⟨⟨⟨ts.length + 1, ag_loop hW hW8 hl ht _ 0 (List.replicate W 0, []) (by omega) (by omega) (start_Tm ts W) (by rw [List.drop_zero]; exact hK)⟩⟩⟩
theorem sched_Tm {ts : List (List Int)} {W : Nat} (hW : 1 <= W) (ht : ∀ t ∈ ts, t.length <= 40) : ∀ (n k : Nat) (s : List Int × List Int), k + n = ts.length -> Tm ts W k s -> Tm ts W ts.length (sched (ts.drop k) s)
 | 0, k, s, hk, h => by
  obtain rfl : k = ts.length := by omega
  rw [List.drop_length]
  exact h
 | n + 1, k, s, hk, h => by
  rw [drop_cons ([] : List Int) (show k < ts.length by omega)]
  exact sched_Tm hW ht n (k + 1) _ (by omega) (h.step hW (by omega) ht)
theorem asg_Tm {ts : List (List Int)} {W : Nat} (hW : 1 <= W) (ht : ∀ t ∈ ts, t.length <= 40) : Tm ts W ts.length (asg ts (W : Int)) := by
 have := sched_Tm hW ht ts.length 0 _ (by omega) (start_Tm ts W)
 rw [List.drop_zero] at this
 exact this
set_option maxRecDepth 100000
theorem fi_snoc (p : Int -> Bool) (x : Int) : ∀ (l : List Int) (i : Nat), fi p (l ++ [x]) i = if fi p l i < 0 then (if p x = true then ((i + l.length : Nat) : Int) else -1) else fi p l i
 | [], i => by simp [fi]
 | y :: l, i => by
  rw [List.cons_append]
  unfold fi
  by_cases e : p y = true
  · rw [if_pos e, if_pos e, if_neg (by omega)]
  · rw [if_neg e, if_neg e, fi_snoc p x l (i + 1), List.length_cons]
    by_cases h : fi p l (i + 1) < 0
    · rw [if_pos h, if_pos h]
      have : i + 1 + l.length = i + (l.length + 1) := by omega
      rw [this]
    · rw [if_neg h, if_neg h]
theorem map_take_snoc {ts : List (List Int)} {i : Nat} (h : i < ts.length) : (ts.take (i + 1)).map fo = (ts.take i).map fo ++ [fo (ts.getD i [])] := by
 rw [take_snoc ([] : List Int) h, List.map_append]; rfl
theorem fm_loop {ts : List (List Int)} {limit : Int} (hl : ts.length <= 24) (ht : ∀ t ∈ ts, t.length <= 40) (hd : ∀ t ∈ ts, ∀ z ∈ t, dg z) {K : Int -> List Int -> Prop} (hK : K (fi (fun n => decide (n < limit)) (ts.map fo) 0) (ts.map fo)) : ∀ (fu i : Nat), i <= ts.length -> ts.length - i < fu ->
  L.a0_L1_R ts limit fu (fi (fun n => decide (n < limit)) ((ts.take i).map fo) 0) i ((ts.take i).map fo) K
 | 0, i, _, h => by omega
 | fu + 1, i, hi, h => by
  show L.a0_L1_b ts limit _ i _ _ _
  unfold L.a0_L1_b
  rcases Nat.lt_or_ge i ts.length with g | g
  · have hm := getD_mem ([] : List Int) g
    have hlen : ((ts.take i).map fo).length = i := by rw [List.length_map, List.length_take]; omega
    refine cond_t (by rw [decide_eq_true_eq]; omega) ⟨inB_of (by omega) (by omega), ?_⟩
    rw [toNat_cast, i64_succ (i := i) (by omega)]
    refine rf_ok (by have := ht _ hm; omega) (hd _ hm) ⟨fits_of (by rw [hlen]; simp; omega), fun _ => inB_of (by omega) (by rw [List.length_append, hlen]; simp; omega), ?_⟩
    have ih := fm_loop hl ht hd hK fu (i + 1) (by omega) (by omega)
    rw [map_take_snoc g, fi_snoc, hlen, Nat.zero_add] at ih
    have eg : ((ts.take i).map fo ++ [fo (ts.getD i [])]).getD i 0 = fo (ts.getD i []) := by
     rw [List.getD_eq_getElem?_getD, List.getElem?_append_right (by omega), hlen]; simp
    rw [eg]
    by_cases h1 : fi (fun n => decide (n < limit)) ((ts.take i).map fo) 0 < 0
    · rw [if_pos h1] at ih
      rw [decide_eq_true h1]
      simp only [cond_true]
      by_cases h2 : fo (ts.getD i []) < limit
      · rw [if_pos (decide_eq_true h2)] at ih
        exact cond_t (decide_eq_true h2) ih
      · rw [if_neg (by simpa using h2)] at ih
        refine cond_f (decide_eq_false h2) ?_
        have : fi (fun n => decide (n < limit)) ((ts.take i).map fo) 0 = -1 := by
         rcases fi_ge (fun n => decide (n < limit)) ((ts.take i).map fo) 0 with e | e
         · exact e
         · omega
        rw [this]
        exact ih
    · rw [if_neg h1] at ih
      rw [decide_eq_false h1]
      simp only [cond_false]
      exact ih
  · rw [List.take_of_length_le g]
    exact cond_f (by rw [decide_eq_false_iff_not]; omega) hK
theorem lo_loop {ts : List (List Int)} {W : Nat} {s : List Int × List Int} (hT : Tm ts W ts.length s) (hW8 : W <= 8) (hl : ts.length <= 24) (ht : ∀ t ∈ ts, t.length <= 40) {K : Int -> Prop} : ∀ (fu i : Nat) (a : Int), i <= W -> W - i < fu -> K ((s.1.drop i).foldl amx a) -> L.a0_L2_R ts (W : Int) s.2 fu a i K
 | 0, i, a, _, h, _ => by omega
 | fu + 1, i, a, hi, h, hK => by
  show L.a0_L2_b ts (W : Int) s.2 a i _ _
  unfold L.a0_L2_b
  have hlen := hT.inv.len
  rcases Nat.lt_or_ge i W with g | g
  · rw [drop_cons (0 : Int) (by omega)] at hK
    refine cond_t (by rw [decide_eq_true_eq]; omega) (tt_ok hl ht (by rw [hT.inv.out]; exact Nat.le_refl _) ?_)
    rw [<- hT.eq i g, i64_succ (i := i) (by omega)]
    exact lo_loop hT hW8 hl ht fu (i + 1) _ (by omega) (by omega) hK
  · rw [List.drop_eq_nil_of_le (by omega)] at hK
    exact cond_f (by rw [decide_eq_false_iff_not]; omega) hK
theorem mx_zero {l : List Int} (h : l ≠ []) (hn : ∀ x ∈ l, 0 <= x) : l.foldl amx 0 = mx l := by
 obtain ⟨h1, h2, h3⟩ := amx_fold l 0
 obtain ⟨m1, m2⟩ := mx_spec h
 have a1 := h2 _ m1
 have a2 := hn _ m1
 rcases h3 with e | e
 · omega
 · have := m2 _ e
   omega
theorem fm_true (ts : List (List Int)) (W limit : Int) (K : Bool -> Prop) (hK : K true) : L.a0 ts W limit K := by
 constructor
 unfold L.a0_B
 refine tf_ok (res_ok (tot_ok (fst_ok (asn_ok (ex_ok (cond_t (by decide) (val_ok ⟨cond_f (by simp) ⟨?_⟩⟩)))))))
 unfold L.a0_J1_B
 by_cases h : (val ts W).1 = 0
 · refine cond_f (by rw [h]; rfl) ?_
   obtain ⟨hv, hF⟩ := val_nought h
   have f := fine_iff.2 h
   have hl := hF.len
   have ht : ∀ t ∈ ts, t.length <= 40 := fun t ht => (hF.ok t ht).1
   have w1 := hF.w1
   have w8 := hF.w8
   obtain ⟨k, rfl⟩ : ∃ k : Nat, W = (k : Int) := ⟨W.toNat, by omega⟩
   rw [hv, res_fine h]
   have etot : tot ts (k : Int) = fo (ts.map fo) := by unfold tot; rw [if_pos f, res_fine h]
   have easn : asn ts (k : Int) = ((asg ts (k : Int)).2, mx (asg ts (k : Int)).1) := by unfold asn; rw [if_pos f]
   rw [etot, easn]
   refine ⟨⟨ts.length + 1, fm_loop (limit := limit) hl ht hF.dg ?_ _ 0 (by omega) (by omega)⟩⟩
   refine cond_f (by decide) (Equal_ok (by simp; omega) ?_)
   refine cond_f (by simp) (rf_ok (by simp; omega) (fun z hz => by obtain ⟨t, _, rfl⟩ := List.mem_map.1 hz; exact fo_dg t) ⟨cond_f (by simp) ⟨?_⟩⟩)
   have hT := asg_Tm (W := k) (by omega) ht
   have j3 : L.a0_J3 ts (k : Int) (mx (asg ts (k : Int)).1) (asg ts (k : Int)).2 0 K := by
    refine ⟨ag_ok (by omega) (by omega) hl ht ⟨⟨k + 1, lo_loop hT (by omega) hl ht _ 0 0 (by omega) (by omega) ?_⟩⟩⟩
    rw [List.drop_zero, mx_zero (fun e => by have := hT.inv.len; rw [e] at this; simp at this; omega) fun x hx => (hT.inv.bnd x hx).1]
    refine cond_t (by decide) (Equal_ok (by have := hT.inv.out; omega) ?_)
    simpa using hK
   unfold L.a0_J2_B
   rw [bor]
   unfold fst
   rw [if_pos f, res_fine h]
   by_cases h1 : limit < 0 \/ limit > 2305843009213693951
   · rw [if_pos h1]
     refine cond_t (by simpa using h1) (Fault_ok ?_)
     show bif _ then _ else _
     exact cond_f (by decide) j3
   · rw [if_neg h1]
     refine cond_f (by simpa using h1) ?_
     by_cases h2 : fi (fun n => decide (n < limit)) (ts.map fo) 0 < 0
     · rw [if_pos h2]
       refine cond_t (decide_eq_true h2) (Fault_ok ?_)
       show bif _ then _ else _
       exact cond_f (by decide) j3
     · rw [if_neg h2]
       exact cond_f (decide_eq_false h2) (cond_f (by simp) j3)
 · refine cond_t (by simpa using h) ?_
   have f : fine ts W = false := by
    cases e : fine ts W with
    | false => rfl
    | true => exact absurd (fine_iff.1 e) h
   have e1 : res ts W = [] := by unfold res; rw [f]; rfl
   have e2 : tot ts W = 0 := by unfold tot; rw [f]; rfl
   have e3 : fst ts W limit = (0, val ts W) := by unfold fst; rw [f]; rfl
   have e4 : asn ts W = ([], 0) := by unfold asn; rw [f]; rfl
   rw [e1, e2, e3, e4]
   simpa using hK
end Wt
theorem W_true (xs : ArgDen [(false, .slice L.ya), (false, .int .i64), (false, .int .i64)]) (_ : WfAll _ xs) (K : Bool -> Prop) (hK : K true) : L.a0 xs.1 xs.2.1 xs.2.2.1 K := Wt.fm_true _ _ _ K hK
end Go.Proofs.Ytmdkmlgafnjhmaa
set_option linter.unusedSimpArgs false
namespace Go.Proofs.Ytmdkmlgafnjhmaa
open Go.Conc Go.ConcM
section
variable {H : Type} {enc : TypeId × Value -> H}
end
end Go.Proofs.Ytmdkmlgafnjhmaa
set_option maxRecDepth 100000
namespace Go.Proofs.Ytmdkmlgafnjhmaa
open Eng Go.ChangeShapes Go.WideShapes Go.ChangeAt Go.RowKit
def W_ps : List (Bool × Ty) := [(false, (.slice L.ya)), (false, (.int .i64)), (false, (.int .i64))]
theorem W_sem (xs : ArgDen W_ps) (hw : WfAll W_ps xs) (_ : false = true -> bulkAll W_ps xs <= 1048576) : L.a0_S (lawArgs W_ps xs) isTrue := by
 have e : L.a0_S (lawArgs W_ps xs) isTrue = L.a0 xs.1 xs.2.1 xs.2.2.1 (fun r => isTrue (.x (.bool r)) []) := by kernel_rfl
 rw [e]
 exact W_true xs hw _ rfl
theorem W_own : ownKnob Try.prog.godebug = none := by kernel_rfl
theorem W_laid : laidOutB Try.prog = true := by kernel_rfl
theorem W_spec : LawSpec Rows.workpoolFunctionsMatchSpecSpec Try.f6.params.toList.length where
 vars := rfl
 res := fun H ds h => by
  match ds, h with
  | [d1, d2, d3], _ => rfl
 args := fun H ds h => by
  match ds, h with
  | [d1, d2, d3], _ => rfl
 left := fun H ds h => by
  match ds, h with
  | [d1, d2, d3], _ => rfl
theorem W_lifted (os : Os) (started : os.Started) (H : Type) (enc : TypeId × Value -> H) (F : Stop.Interp) :
  ReturnsInLeavingWide { calm := true } Try.checked os 6 .any (Rows.workpoolFunctionsMatchSpecSpec.pre6 enc Try.prog Try.f6 Rows.workpoolFunctionsMatchSpecRow.domain false) ((OpenSpec.ofChange Rows.workpoolFunctionsMatchSpecSpec).postWith enc Try.prog Try.f6 F (outsideKept [.timePasses]) false true false) := by
 refine returnsInLeavingWide_of_change_time (C := Try.checked) W_own started Try.func6
  (ChangeSpec.witness6c (enc := enc) (C := Try.checked) ⟨#[], #[.slice none 0 0, .int .i64 0, .int .i64 0], []⟩ 8 (by kernel_rfl) (by kernel_rfl) (by kernel_rfl) (by kernel_rfl)) ?_
 intro W base args ds gs before hval hW _ _ _
 exact law_conc (small := false) W_laid (ps := W_ps) (tb := 4) Try.func6 ⟨6, by kernel_rfl⟩ (by kernel_rfl) (by kernel_rfl) (by kernel_rfl) Try.underlying4 W_spec L.a0_ok W_sem hval hW (fun h => by cases h)
theorem WorkpoolFunctionsMatchSpec_holds : Rows.WorkpoolFunctionsMatchSpecSaid :=
 OpenClaim.holds_of_wide_leaving_time 6 Try.f6 rfl rfl rfl rfl rfl rfl rfl ⟨rfl, rfl, rfl, rfl, rfl⟩ rfl rfl rfl rfl rfl (by kernel_rfl) Try.func6 (by kernel_rfl)
  (of_decide_eq_true (by kernel_rfl)) (by unfold Func.isWrapper; first | (rw [if_pos (by decide +kernel)]; kernel_rfl) | (rw [if_neg (by decide +kernel)]; exact ⟨rfl, rfl⟩))
  (fun os started H enc _ F => W_lifted os started H enc F)
#print axioms WorkpoolFunctionsMatchSpec_holds
end Go.Proofs.Ytmdkmlgafnjhmaa

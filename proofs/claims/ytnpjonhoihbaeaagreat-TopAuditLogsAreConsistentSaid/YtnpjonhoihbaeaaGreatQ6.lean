/-
 Part 6 of the proof of a law. Conditions: none.
-/
import Derived.Test.YtnpjonhoihbaeaaGreatQ5
import Derived.Test.YtnpjonhoihbaeaaGreatProg
set_option linter.unusedVariables false
set_option maxRecDepth 100000
namespace Go.Proofs.YtnpjonhoihbaeaaGreat
open Eng
noncomputable abbrev L.pg : Program := Tryz.prog
noncomputable abbrev L.ex (Γ : Ctx) (Δ : CtxO) := exec L.pg (CC L.pg Γ Δ) (drawD L.pg Γ Δ)
def gA (vs : List V) (i : Nat) : V := vs.getD i .any
def gD (st : List Ob) (i : Nat) : Ob := st.getD i .dead
abbrev L.ya : Type := Int × (Int × Int)
abbrev L.T0 : Ty := (.pair (.slice (.int .i64)) (.pair (.int .i64) (.pair (.int .i64) (.int .i64))))
abbrev L.T1 : Ty := (.pair (.int .i64) (.pair (.int .i64) (.pair (.int .i64) (.int .i64))))
def L.Γ_d3 : Ctx := ctx0
theorem L.Γ_d3_ok : SoundG L.pg L.Γ_d3 := ctx0_ok
def L.Δ_d3 : CtxO := ctxO0
theorem L.Δ_d3_ok : SoundGO L.pg L.Δ_d3 := ctxO0_ok
def L.d3_B (c_Good c_Bad : Int) (K : Int -> Int -> Prop) : Prop :=
 (bif (bif (bif (bif (bif (decide (c_Good < 0)) then true else (decide (c_Bad < 0))) then true else (decide (c_Good > 25))) then true else (decide (c_Bad > 25))) then true else (decide ((i64 (c_Good + c_Bad)) > 25))) then K 3 (-1) else K 0 0)
structure L.d3 (c_Good c_Bad : Int) (K : Int -> Int -> Prop) : Prop where
 out : L.d3_B c_Good c_Bad K
def L.d3_ss : List Sh := [.agg [.int .i64, .int .i64]]
def L.d3_G (vs : List V) (K : V -> List Ob -> Prop) : Prop := L.d3 (gI ((gC (gA vs 0)).getD 0 .any)) (gI ((gC (gA vs 0)).getD 1 .any)) (fun r0 r1 => K (.agg [.xi r0, .xi r1]) [])
def L.d3_S : SemF := fun args K => argF L.d3_ss args fun a => L.d3_G a K
noncomputable abbrev L.d3_N : SemF := run L.pg L.Γ_d3 L.Δ_d3 .leaf .any Tryz.f22
theorem L.d3_eq (c_Good c_Bad : Int) (K : V -> List Ob -> Prop) : L.d3_N [.agg [.xi c_Good, .xi c_Bad]] K = L.d3_B c_Good c_Bad (fun r0 r1 => K (.agg [.xi r0, .xi r1]) []) := by
 kernel_rfl
theorem L.d3_imp (vs : List V) (K : V -> List Ob -> Prop) : Imp (L.d3_G vs K) (L.d3_N (mkL L.d3_ss 0 vs) K) :=
 Imp.of (Eq.trans (b := L.d3_N [.agg [.xi (gI ((gC (gA vs 0)).getD 0 .any)), .xi (gI ((gC (gA vs 0)).getD 1 .any))]] K) (by kernel_rfl) (L.d3_eq (gI ((gC (gA vs 0)).getD 0 .any)) (gI ((gC (gA vs 0)).getD 1 .any)) K)) fun h => (L.d3.out h)
theorem L.d3_ok : SoundFn L.pg 22 L.d3_S :=
 fn_ok (sem := L.d3_N) (ss := L.d3_ss) (G := L.d3_G) (run_ok L.Γ_d3_ok L.Δ_d3_ok Tryz.func22 (ann := .leaf) (annOk_leaf _)) L.d3_imp
def L.Γ_d2 : Ctx := ctxC L.Γ_d3 22 L.d3_S
theorem L.Γ_d2_ok : SoundG L.pg L.Γ_d2 := ctxC_ok L.Γ_d3_ok L.d3_ok
def L.Δ_d2 : CtxO := L.Δ_d3
theorem L.Δ_d2_ok : SoundGO L.pg L.Δ_d2 := L.Δ_d3_ok
def L.d2_B (n : Int) (K : Bool -> Prop) : Prop :=
 K (bif (decide (n ≥ 0)) then (decide (n <= 25)) else false)
structure L.d2 (n : Int) (K : Bool -> Prop) : Prop where
 out : L.d2_B n K
def L.d2_ss : List Sh := [.int .i64]
def L.d2_G (vs : List V) (K : V -> List Ob -> Prop) : Prop := L.d2 (gI (gA vs 0)) (fun r0 => K (.x (.bool r0)) [])
def L.d2_S : SemF := fun args K => argF L.d2_ss args fun a => L.d2_G a K
noncomputable abbrev L.d2_N : SemF := run L.pg L.Γ_d2 L.Δ_d2 .leaf .any Tryz.f23
theorem L.d2_eq (n : Int) (K : V -> List Ob -> Prop) : L.d2_N [.xi n] K = L.d2_B n (fun r0 => K (.x (.bool r0)) []) := by
 kernel_rfl
theorem L.d2_imp (vs : List V) (K : V -> List Ob -> Prop) : Imp (L.d2_G vs K) (L.d2_N (mkL L.d2_ss 0 vs) K) :=
 Imp.of (Eq.trans (b := L.d2_N [.xi (gI (gA vs 0))] K) (by kernel_rfl) (L.d2_eq (gI (gA vs 0)) K)) fun h => (L.d2.out h)
theorem L.d2_ok : SoundFn L.pg 23 L.d2_S :=
 fn_ok (sem := L.d2_N) (ss := L.d2_ss) (G := L.d2_G) (run_ok L.Γ_d2_ok L.Δ_d2_ok Tryz.func23 (ann := .leaf) (annOk_leaf _)) L.d2_imp
def L.Γ_d1 : Ctx := ctxC L.Γ_d2 23 L.d2_S
theorem L.Γ_d1_ok : SoundG L.pg L.Γ_d1 := ctxC_ok L.Γ_d2_ok L.d2_ok
def L.Δ_d1 : CtxO := L.Δ_d2
theorem L.Δ_d1_ok : SoundGO L.pg L.Δ_d1 := L.Δ_d2_ok
def L.d1_B (n : Int) (K : Bool -> Prop) : Prop :=
 K (bif (decide (n ≥ 0)) then (decide (n < 1000)) else false)
structure L.d1 (n : Int) (K : Bool -> Prop) : Prop where
 out : L.d1_B n K
def L.d1_ss : List Sh := [.int .i64]
def L.d1_G (vs : List V) (K : V -> List Ob -> Prop) : Prop := L.d1 (gI (gA vs 0)) (fun r0 => K (.x (.bool r0)) [])
def L.d1_S : SemF := fun args K => argF L.d1_ss args fun a => L.d1_G a K
noncomputable abbrev L.d1_N : SemF := run L.pg L.Γ_d1 L.Δ_d1 .leaf .any Tryz.f24
theorem L.d1_eq (n : Int) (K : V -> List Ob -> Prop) : L.d1_N [.xi n] K = L.d1_B n (fun r0 => K (.x (.bool r0)) []) := by
 kernel_rfl
theorem L.d1_imp (vs : List V) (K : V -> List Ob -> Prop) : Imp (L.d1_G vs K) (L.d1_N (mkL L.d1_ss 0 vs) K) :=
 Imp.of (Eq.trans (b := L.d1_N [.xi (gI (gA vs 0))] K) (by kernel_rfl) (L.d1_eq (gI (gA vs 0)) K)) fun h => (L.d1.out h)
theorem L.d1_ok : SoundFn L.pg 24 L.d1_S :=
 fn_ok (sem := L.d1_N) (ss := L.d1_ss) (G := L.d1_G) (run_ok L.Γ_d1_ok L.Δ_d1_ok Tryz.func24 (ann := .leaf) (annOk_leaf _)) L.d1_imp
def L.Γ_a8 : Ctx := ctxC L.Γ_d1 24 L.d1_S
theorem L.Γ_a8_ok : SoundG L.pg L.Γ_a8 := ctxC_ok L.Γ_d1_ok L.d1_ok
def L.Δ_a8 : CtxO := L.Δ_d1
theorem L.Δ_a8_ok : SoundGO L.pg L.Δ_a8 := L.Δ_d1_ok
def L.a8_L1_b (n1 v14 out v15 : Int) (self : Int -> Int -> Prop) (Kx0 : Int -> Prop) : Prop :=
 (bif (decide (v15 < v14)) then ((i64 (v15 + 1)) ≠ 0) /\ self (i64 ((i64 (out * (i64 (n1 - v15)))).tdiv (i64 (v15 + 1)))) (i64 (v15 + 1)) else Kx0 out)
def L.a8_L1_R (n1 v14 : Int) : Nat -> Int -> Int -> (Int -> Prop) -> Prop
 | 0, _, _, _ => False
 | fu + 1, out, v15, Kx0 => L.a8_L1_b n1 v14 out v15 (fun out v15 => L.a8_L1_R n1 v14 fu out v15 Kx0) Kx0
structure L.a8_L1 (n1 v14 out v15 : Int) (Kx0 : Int -> Prop) : Prop where
 out : ∃ fu, L.a8_L1_R n1 v14 fu out v15 Kx0
def L.a8_L1_d : LoopD := { base := 0, vecs := [], flds := [], keep := [0, 5, 14, 15], out := [5], rets := [4], rv := [], rbase := 0 }
def L.a8_L1_ss : List Sh := [.int .i64, .int .i64, .int .i64, .int .i64]
def L.a8_L1_os : List OSh := []
def L.a8_L1_G (vs : List V) (st : List Ob) (K : Ex -> St) : Prop := L.a8_L1 (gI (gA vs 0)) (gI (gA vs 2)) (gI (gA vs 1)) (gI (gA vs 3)) (fun q0_ => K (.exit 0) (bld [5] [.xi q0_] 0 28) [])
def L.a8_L1_F (vs : List V) (st : List Ob) (K : Ex -> St) : Prop := fitF L.a8_L1_ss L.a8_L1_os vs st (L.a8_L1_G vs st K)
theorem L.a8_L1_eq (n1 v14 : Int) (K : Ex -> St) : ∀ (fu : Nat) (out : Int) (v15 : Int), L.a8_L1_R n1 v14 fu out v15 (fun q0_ => K (.exit 0) (bld [5] [.xi q0_] 0 28) []) = iterL (stepL (L.ex L.Γ_a8 L.Δ_a8 .leaf (sub [true, true, true, false, true, false, false] (codeOf Tryz.f51))) 0 L.a8_L1_d K) fu (bld L.a8_L1_d.keep [.xi n1, .xi out, .xi v14, .xi v15] 0 28) [] := by
 intro fu
 induction fu with
 | zero => intros; rfl
 | succ fu ih =>
  intro out v15
  have e : (fun out v15 => L.a8_L1_R n1 v14 fu out v15 (fun q0_ => K (.exit 0) (bld [5] [.xi q0_] 0 28) [])) = fun out v15 => iterL (stepL (L.ex L.Γ_a8 L.Δ_a8 .leaf (sub [true, true, true, false, true, false, false] (codeOf Tryz.f51))) 0 L.a8_L1_d K) fu (bld L.a8_L1_d.keep [.xi n1, .xi out, .xi v14, .xi v15] 0 28) [] := by
   funext out v15; exact ih out v15
  show L.a8_L1_b n1 v14 out v15 (fun out v15 => L.a8_L1_R n1 v14 fu out v15 (fun q0_ => K (.exit 0) (bld [5] [.xi q0_] 0 28) [])) (fun q0_ => K (.exit 0) (bld [5] [.xi q0_] 0 28) []) = _
  rw [e]
  kernel_rfl
theorem L.a8_L1_imp (vs : List V) (st : List Ob) (K : Ex -> St) (h : L.a8_L1_G vs st K) : ∃ fu, iterL (stepL (L.ex L.Γ_a8 L.Δ_a8 .leaf (sub [true, true, true, false, true, false, false] (codeOf Tryz.f51))) 0 L.a8_L1_d K) fu (bld L.a8_L1_d.keep (mkL L.a8_L1_ss 0 vs) 0 28) (mkOs L.a8_L1_os 0 st) :=
 exMap (fun fu h => @Eq.mp _ _ (Eq.trans (L.a8_L1_eq (gI (gA vs 0)) (gI (gA vs 2)) K fu (gI (gA vs 1)) (gI (gA vs 3))) (by kernel_rfl)) h) (L.a8_L1.out h)
theorem L.a8_L1_ok : AnnOk L.pg (CC L.pg L.Γ_a8 L.Δ_a8) (drawD L.pg L.Γ_a8 L.Δ_a8) 0 (.lift L.a8_L1_d 28 L.a8_L1_F) (.loop (sub [true, true, true, false, true, false, false] (codeOf Tryz.f51))) :=
 lift_ok (an := .leaf) (ss := L.a8_L1_ss) (os := L.a8_L1_os) (G := L.a8_L1_G) rfl (Nat.le_of_ble_eq_true rfl) (annOk_leaf _) (L.a8_L1_imp)
def L.a8_B (n k : Int) (K : Int -> Prop) : Prop :=
 (bif (bif (decide (k < 0)) then true else (decide (k > n))) then K 0 else L.a8_L1 n k 1 0 (fun out => K out))
structure L.a8 (n k : Int) (K : Int -> Prop) : Prop where
 out : L.a8_B n k K
def L.a8_ss : List Sh := [.int .i64, .int .i64]
def L.a8_G (vs : List V) (K : V -> List Ob -> Prop) : Prop := L.a8 (gI (gA vs 0)) (gI (gA vs 1)) (fun r0 => K (.xi r0) [])
def L.a8_S : SemF := fun args K => argF L.a8_ss args fun a => L.a8_G a K
noncomputable abbrev L.a8_N : SemF := run L.pg L.Γ_a8 L.Δ_a8 (.node .leaf (.node .leaf (.node .leaf (.node (.node .leaf (.lift L.a8_L1_d 28 L.a8_L1_F)) .leaf)))) .any Tryz.f51
theorem L.a8_eq (n k : Int) (K : V -> List Ob -> Prop) : L.a8_N [.xi n, .xi k] K = L.a8_B n k (fun r0 => K (.xi r0) []) := by
 kernel_rfl
theorem L.a8_imp (vs : List V) (K : V -> List Ob -> Prop) : Imp (L.a8_G vs K) (L.a8_N (mkL L.a8_ss 0 vs) K) :=
 Imp.of (Eq.trans (b := L.a8_N [.xi (gI (gA vs 0)), .xi (gI (gA vs 1))] K) (by kernel_rfl) (L.a8_eq (gI (gA vs 0)) (gI (gA vs 1)) K)) fun h => (L.a8.out h)
theorem L.a8_ok : SoundFn L.pg 51 L.a8_S :=
 fn_ok (sem := L.a8_N) (ss := L.a8_ss) (G := L.a8_G) (run_ok L.Γ_a8_ok L.Δ_a8_ok Tryz.func51 (ann := (.node .leaf (.node .leaf (.node .leaf (.node (.node .leaf (.lift L.a8_L1_d 28 L.a8_L1_F)) .leaf))))) ⟨(annOk_leaf _), ⟨(annOk_leaf _), ⟨(annOk_leaf _), ⟨⟨(annOk_leaf _), L.a8_L1_ok⟩, (annOk_leaf _)⟩⟩⟩⟩) L.a8_imp
def L.Γ_b7 : Ctx := ctxC L.Γ_a8 51 L.a8_S
theorem L.Γ_b7_ok : SoundG L.pg L.Γ_b7 := ctxC_ok L.Γ_a8_ok L.a8_ok
def L.Δ_b7 : CtxO := L.Δ_a8
theorem L.Δ_b7_ok : SoundGO L.pg L.Δ_b7 := L.Δ_a8_ok
def L.b7_L1_b (good bad own v27 canary1 some_ v28 : Int) (self : Int -> Int -> Prop) (Kx0 : Int -> Prop) : Prop :=
 (bif (decide (v28 < v27)) then (bif (decide (v28 ≥ canary1)) then L.a8 bad v28 (fun r => L.a8 good (i64 (own - v28)) (fun r1 => self (i64 (some_ + (i64 (r * r1)))) (i64 (v28 + 1)))) else self some_ (i64 (v28 + 1))) else Kx0 some_)
def L.b7_L1_R (good bad own v27 canary1 : Int) : Nat -> Int -> Int -> (Int -> Prop) -> Prop
 | 0, _, _, _ => False
 | fu + 1, some_, v28, Kx0 => L.b7_L1_b good bad own v27 canary1 some_ v28 (fun some_ v28 => L.b7_L1_R good bad own v27 canary1 fu some_ v28 Kx0) Kx0
structure L.b7_L1 (good bad own v27 canary1 some_ v28 : Int) (Kx0 : Int -> Prop) : Prop where
 out : ∃ fu, L.b7_L1_R good bad own v27 canary1 fu some_ v28 Kx0
def L.b7_L1_d : LoopD := { base := 2, vecs := [], flds := [], keep := [3, 6, 7, 8, 9, 27, 28], out := [6, 7, 8, 9], rets := [4, 5], rv := [], rbase := 0 }
def L.b7_L1_ss : List Sh := [.cl 1 0, .int .i64, .int .i64, .int .i64, .int .i64, .int .i64, .int .i64]
def L.b7_L1_os : List OSh := [.cells [.int .i64, .int .i64], .cells [.int .i64, .int .i64]]
def L.b7_L1_G (vs : List V) (st : List Ob) (K : Ex -> St) : Prop := L.b7_L1 (gI (gA vs 1)) (gI (gA vs 2)) (gI (gA vs 3)) (gI (gA vs 5)) (cI st 1 1) (gI (gA vs 4)) (gI (gA vs 6)) (fun q0_ => K (.exit 0) (bld [6, 7, 8, 9] [.xi (gI (gA vs 1)), .xi (gI (gA vs 2)), .xi (gI (gA vs 3)), .xi q0_] 0 53) [.cells [.xi (cI st 0 0), .xi (cI st 0 1)], .cells [.xi (cI st 1 0), .xi (cI st 1 1)]])
def L.b7_L1_F (vs : List V) (st : List Ob) (K : Ex -> St) : Prop := fitF L.b7_L1_ss L.b7_L1_os vs st (L.b7_L1_G vs st K)
theorem L.b7_L1_eq (good bad own v27 m0 m01 canary canary1 : Int) (K : Ex -> St) : ∀ (fu : Nat) (some_ : Int) (v28 : Int), L.b7_L1_R good bad own v27 canary1 fu some_ v28 (fun q0_ => K (.exit 0) (bld [6, 7, 8, 9] [.xi good, .xi bad, .xi own, .xi q0_] 0 53) [.cells [.xi m0, .xi m01], .cells [.xi canary, .xi canary1]]) = iterL (stepL (L.ex L.Γ_b7 L.Δ_b7 .leaf (sub [true, true, true, false, true, false, false] (codeOf Tryz.f38))) 2 L.b7_L1_d K) fu (bld L.b7_L1_d.keep [.cl 1 0, .xi good, .xi bad, .xi own, .xi some_, .xi v27, .xi v28] 0 53) [.cells [.xi m0, .xi m01], .cells [.xi canary, .xi canary1]] := by
 intro fu
 induction fu with
 | zero => intros; rfl
 | succ fu ih =>
  intro some_ v28
  have e : (fun some_ v28 => L.b7_L1_R good bad own v27 canary1 fu some_ v28 (fun q0_ => K (.exit 0) (bld [6, 7, 8, 9] [.xi good, .xi bad, .xi own, .xi q0_] 0 53) [.cells [.xi m0, .xi m01], .cells [.xi canary, .xi canary1]])) = fun some_ v28 => iterL (stepL (L.ex L.Γ_b7 L.Δ_b7 .leaf (sub [true, true, true, false, true, false, false] (codeOf Tryz.f38))) 2 L.b7_L1_d K) fu (bld L.b7_L1_d.keep [.cl 1 0, .xi good, .xi bad, .xi own, .xi some_, .xi v27, .xi v28] 0 53) [.cells [.xi m0, .xi m01], .cells [.xi canary, .xi canary1]] := by
   funext some_ v28; exact ih some_ v28
  show L.b7_L1_b good bad own v27 canary1 some_ v28 (fun some_ v28 => L.b7_L1_R good bad own v27 canary1 fu some_ v28 (fun q0_ => K (.exit 0) (bld [6, 7, 8, 9] [.xi good, .xi bad, .xi own, .xi q0_] 0 53) [.cells [.xi m0, .xi m01], .cells [.xi canary, .xi canary1]])) (fun q0_ => K (.exit 0) (bld [6, 7, 8, 9] [.xi good, .xi bad, .xi own, .xi q0_] 0 53) [.cells [.xi m0, .xi m01], .cells [.xi canary, .xi canary1]]) = _
  rw [e]
  kernel_rfl
theorem L.b7_L1_imp (vs : List V) (st : List Ob) (K : Ex -> St) (h : L.b7_L1_G vs st K) : ∃ fu, iterL (stepL (L.ex L.Γ_b7 L.Δ_b7 .leaf (sub [true, true, true, false, true, false, false] (codeOf Tryz.f38))) 2 L.b7_L1_d K) fu (bld L.b7_L1_d.keep (mkL L.b7_L1_ss 0 vs) 0 53) (mkOs L.b7_L1_os 0 st) :=
 exMap (fun fu h => @Eq.mp _ _ (Eq.trans (L.b7_L1_eq (gI (gA vs 1)) (gI (gA vs 2)) (gI (gA vs 3)) (gI (gA vs 5)) (cI st 0 0) (cI st 0 1) (cI st 1 0) (cI st 1 1) K fu (gI (gA vs 4)) (gI (gA vs 6))) (by kernel_rfl)) h) (L.b7_L1.out h)
theorem L.b7_L1_ok : AnnOk L.pg (CC L.pg L.Γ_b7 L.Δ_b7) (drawD L.pg L.Γ_b7 L.Δ_b7) 0 (.lift L.b7_L1_d 53 L.b7_L1_F) (.loop (sub [true, true, true, false, true, false, false] (codeOf Tryz.f38))) :=
 lift_ok (an := .leaf) (ss := L.b7_L1_ss) (os := L.b7_L1_os) (G := L.b7_L1_G) rfl (Nat.le_of_ble_eq_true rfl) (annOk_leaf _) (L.b7_L1_imp)
def L.b7_B (base_Good base_Bad canary_Good canary_Bad : Int) (K : Int -> Int -> Prop) : Prop :=
 L.b7_L1 (i64 (base_Good + canary_Good)) (i64 (base_Bad + canary_Bad)) (i64 (canary_Good + canary_Bad)) (i64 ((i64 (canary_Good + canary_Bad)) + 1)) canary_Bad 0 0 (fun some_ => L.a8 (i64 ((i64 (base_Good + canary_Good)) + (i64 (base_Bad + canary_Bad)))) (i64 (canary_Good + canary_Bad)) (fun r => K some_ r))
structure L.b7 (base_Good base_Bad canary_Good canary_Bad : Int) (K : Int -> Int -> Prop) : Prop where
 out : L.b7_B base_Good base_Bad canary_Good canary_Bad K
def L.b7_ss : List Sh := [.agg [.int .i64, .int .i64], .agg [.int .i64, .int .i64]]
def L.b7_G (vs : List V) (K : V -> List Ob -> Prop) : Prop := L.b7 (gI ((gC (gA vs 0)).getD 0 .any)) (gI ((gC (gA vs 0)).getD 1 .any)) (gI ((gC (gA vs 1)).getD 0 .any)) (gI ((gC (gA vs 1)).getD 1 .any)) (fun r0 r1 => K (.tup [.xi r0, .xi r1]) [])
def L.b7_S : SemF := fun args K => argF L.b7_ss args fun a => L.b7_G a K
noncomputable abbrev L.b7_N : SemF := run L.pg L.Γ_b7 L.Δ_b7 (.node .leaf (.node .leaf (.node .leaf (.node (.node .leaf (.lift L.b7_L1_d 53 L.b7_L1_F)) .leaf)))) .any Tryz.f38
theorem L.b7_eq (base_Good base_Bad canary_Good canary_Bad : Int) (K : V -> List Ob -> Prop) : L.b7_N [.agg [.xi base_Good, .xi base_Bad], .agg [.xi canary_Good, .xi canary_Bad]] K = L.b7_B base_Good base_Bad canary_Good canary_Bad (fun r0 r1 => K (.tup [.xi r0, .xi r1]) []) := by
 kernel_rfl
theorem L.b7_imp (vs : List V) (K : V -> List Ob -> Prop) : Imp (L.b7_G vs K) (L.b7_N (mkL L.b7_ss 0 vs) K) :=
 Imp.of (Eq.trans (b := L.b7_N [.agg [.xi (gI ((gC (gA vs 0)).getD 0 .any)), .xi (gI ((gC (gA vs 0)).getD 1 .any))], .agg [.xi (gI ((gC (gA vs 1)).getD 0 .any)), .xi (gI ((gC (gA vs 1)).getD 1 .any))]] K) (by kernel_rfl) (L.b7_eq (gI ((gC (gA vs 0)).getD 0 .any)) (gI ((gC (gA vs 0)).getD 1 .any)) (gI ((gC (gA vs 1)).getD 0 .any)) (gI ((gC (gA vs 1)).getD 1 .any)) K)) fun h => (L.b7.out h)
theorem L.b7_ok : SoundFn L.pg 38 L.b7_S :=
 fn_ok (sem := L.b7_N) (ss := L.b7_ss) (G := L.b7_G) (run_ok L.Γ_b7_ok L.Δ_b7_ok Tryz.func38 (ann := (.node .leaf (.node .leaf (.node .leaf (.node (.node .leaf (.lift L.b7_L1_d 53 L.b7_L1_F)) .leaf))))) ⟨(annOk_leaf _), ⟨(annOk_leaf _), ⟨(annOk_leaf _), ⟨⟨(annOk_leaf _), L.b7_L1_ok⟩, (annOk_leaf _)⟩⟩⟩⟩) L.b7_imp
def L.Γ_e2 : Ctx := ctxC L.Γ_b7 38 L.b7_S
theorem L.Γ_e2_ok : SoundG L.pg L.Γ_e2 := ctxC_ok L.Γ_b7_ok L.b7_ok
def L.Δ_e2 : CtxO := L.Δ_b7
theorem L.Δ_e2_ok : SoundGO L.pg L.Δ_e2 := L.Δ_b7_ok
def L.e2_B (base_Good base_Bad canary_Good canary_Bad perMille : Int) (K : Bool -> Prop) : Prop :=
 L.b7 base_Good base_Bad canary_Good canary_Bad (fun r r1 => K (decide ((i64 ((1000 : Int) * r)) <= (i64 (perMille * r1)))))
structure L.e2 (base_Good base_Bad canary_Good canary_Bad perMille : Int) (K : Bool -> Prop) : Prop where
 out : L.e2_B base_Good base_Bad canary_Good canary_Bad perMille K
def L.e2_ss : List Sh := [.agg [.int .i64, .int .i64], .agg [.int .i64, .int .i64], .int .i64]
def L.e2_G (vs : List V) (K : V -> List Ob -> Prop) : Prop := L.e2 (gI ((gC (gA vs 0)).getD 0 .any)) (gI ((gC (gA vs 0)).getD 1 .any)) (gI ((gC (gA vs 1)).getD 0 .any)) (gI ((gC (gA vs 1)).getD 1 .any)) (gI (gA vs 2)) (fun r0 => K (.x (.bool r0)) [])
def L.e2_S : SemF := fun args K => argF L.e2_ss args fun a => L.e2_G a K
noncomputable abbrev L.e2_N : SemF := run L.pg L.Γ_e2 L.Δ_e2 .leaf .any Tryz.f25
theorem L.e2_eq (base_Good base_Bad canary_Good canary_Bad perMille : Int) (K : V -> List Ob -> Prop) : L.e2_N [.agg [.xi base_Good, .xi base_Bad], .agg [.xi canary_Good, .xi canary_Bad], .xi perMille] K = L.e2_B base_Good base_Bad canary_Good canary_Bad perMille (fun r0 => K (.x (.bool r0)) []) := by
 kernel_rfl
theorem L.e2_imp (vs : List V) (K : V -> List Ob -> Prop) : Imp (L.e2_G vs K) (L.e2_N (mkL L.e2_ss 0 vs) K) :=
 Imp.of (Eq.trans (b := L.e2_N [.agg [.xi (gI ((gC (gA vs 0)).getD 0 .any)), .xi (gI ((gC (gA vs 0)).getD 1 .any))], .agg [.xi (gI ((gC (gA vs 1)).getD 0 .any)), .xi (gI ((gC (gA vs 1)).getD 1 .any))], .xi (gI (gA vs 2))] K) (by kernel_rfl) (L.e2_eq (gI ((gC (gA vs 0)).getD 0 .any)) (gI ((gC (gA vs 0)).getD 1 .any)) (gI ((gC (gA vs 1)).getD 0 .any)) (gI ((gC (gA vs 1)).getD 1 .any)) (gI (gA vs 2)) K)) fun h => (L.e2.out h)
theorem L.e2_ok : SoundFn L.pg 25 L.e2_S :=
 fn_ok (sem := L.e2_N) (ss := L.e2_ss) (G := L.e2_G) (run_ok L.Γ_e2_ok L.Δ_e2_ok Tryz.func25 (ann := .leaf) (annOk_leaf _)) L.e2_imp
def L.Γ_b2 : Ctx := ctxC L.Γ_e2 25 L.e2_S
theorem L.Γ_b2_ok : SoundG L.pg L.Γ_b2 := ctxC_ok L.Γ_e2_ok L.e2_ok
def L.Δ_b2 : CtxO := L.Δ_e2
theorem L.Δ_b2_ok : SoundGO L.pg L.Δ_b2 := L.Δ_e2_ok
def L.b2_L1_b (samples1 perMille1 v26 base base1 most v27 : Int) (self : Int -> Int -> Prop) (Kx0 : Int -> Prop) : Prop :=
 (bif (decide (v27 < v26)) then L.e2 base base1 (i64 (samples1 - v27)) v27 perMille1 (fun r2 => (bif (!r2) then self v27 (i64 (v27 + 1)) else self most (i64 (v27 + 1)))) else Kx0 most)
def L.b2_L1_R (samples1 perMille1 v26 base base1 : Int) : Nat -> Int -> Int -> (Int -> Prop) -> Prop
 | 0, _, _, _ => False
 | fu + 1, most, v27, Kx0 => L.b2_L1_b samples1 perMille1 v26 base base1 most v27 (fun most v27 => L.b2_L1_R samples1 perMille1 v26 base base1 fu most v27 Kx0) Kx0
structure L.b2_L1 (samples1 perMille1 v26 base base1 most v27 : Int) (Kx0 : Int -> Prop) : Prop where
 out : ∃ fu, L.b2_L1_R samples1 perMille1 v26 base base1 fu most v27 Kx0
def L.b2_L1_d : LoopD := { base := 3, vecs := [], flds := [], keep := [1, 2, 3, 7, 9, 26, 27], out := [7, 9], rets := [6, 7], rv := [], rbase := 0 }
def L.b2_L1_ss : List Sh := [.int .i64, .int .i64, .cl 0 0, .cl 1 0, .int .i64, .int .i64, .int .i64]
def L.b2_L1_os : List OSh := [.cells [.int .i64, .int .i64], .cells [.int .i64, .int .i64], .cells [.int .i64, .int .i64]]
def L.b2_L1_G (vs : List V) (st : List Ob) (K : Ex -> St) : Prop := L.b2_L1 (gI (gA vs 0)) (gI (gA vs 1)) (gI (gA vs 5)) (cI st 0 0) (cI st 0 1) (gI (gA vs 4)) (gI (gA vs 6)) (fun q0_ => K (.exit 0) (bld [7, 9] [.cl 1 0, .xi q0_] 0 43) [.cells [.xi (cI st 0 0), .xi (cI st 0 1)], .cells [.xi (cI st 1 0), .xi (cI st 1 1)], .cells [.xi (cI st 2 0), .xi (cI st 2 1)]])
def L.b2_L1_F (vs : List V) (st : List Ob) (K : Ex -> St) : Prop := fitF L.b2_L1_ss L.b2_L1_os vs st (L.b2_L1_G vs st K)
theorem L.b2_L1_eq (samples1 perMille1 v26 base base1 m1 m11 m2 m21 : Int) (K : Ex -> St) : ∀ (fu : Nat) (most : Int) (v27 : Int), L.b2_L1_R samples1 perMille1 v26 base base1 fu most v27 (fun q0_ => K (.exit 0) (bld [7, 9] [.cl 1 0, .xi q0_] 0 43) [.cells [.xi base, .xi base1], .cells [.xi m1, .xi m11], .cells [.xi m2, .xi m21]]) = iterL (stepL (L.ex L.Γ_b2 L.Δ_b2 .leaf (sub [true, true, true, true, true, false, true, false, false] (codeOf Tryz.f8))) 3 L.b2_L1_d K) fu (bld L.b2_L1_d.keep [.xi samples1, .xi perMille1, .cl 0 0, .cl 1 0, .xi most, .xi v26, .xi v27] 0 43) [.cells [.xi base, .xi base1], .cells [.xi m1, .xi m11], .cells [.xi m2, .xi m21]] := by
 intro fu
 induction fu with
 | zero => intros; rfl
 | succ fu ih =>
  intro most v27
  have e : (fun most v27 => L.b2_L1_R samples1 perMille1 v26 base base1 fu most v27 (fun q0_ => K (.exit 0) (bld [7, 9] [.cl 1 0, .xi q0_] 0 43) [.cells [.xi base, .xi base1], .cells [.xi m1, .xi m11], .cells [.xi m2, .xi m21]])) = fun most v27 => iterL (stepL (L.ex L.Γ_b2 L.Δ_b2 .leaf (sub [true, true, true, true, true, false, true, false, false] (codeOf Tryz.f8))) 3 L.b2_L1_d K) fu (bld L.b2_L1_d.keep [.xi samples1, .xi perMille1, .cl 0 0, .cl 1 0, .xi most, .xi v26, .xi v27] 0 43) [.cells [.xi base, .xi base1], .cells [.xi m1, .xi m11], .cells [.xi m2, .xi m21]] := by
   funext most v27; exact ih most v27
  show L.b2_L1_b samples1 perMille1 v26 base base1 most v27 (fun most v27 => L.b2_L1_R samples1 perMille1 v26 base base1 fu most v27 (fun q0_ => K (.exit 0) (bld [7, 9] [.cl 1 0, .xi q0_] 0 43) [.cells [.xi base, .xi base1], .cells [.xi m1, .xi m11], .cells [.xi m2, .xi m21]])) (fun q0_ => K (.exit 0) (bld [7, 9] [.cl 1 0, .xi q0_] 0 43) [.cells [.xi base, .xi base1], .cells [.xi m1, .xi m11], .cells [.xi m2, .xi m21]]) = _
  rw [e]
  kernel_rfl
theorem L.b2_L1_imp (vs : List V) (st : List Ob) (K : Ex -> St) (h : L.b2_L1_G vs st K) : ∃ fu, iterL (stepL (L.ex L.Γ_b2 L.Δ_b2 .leaf (sub [true, true, true, true, true, false, true, false, false] (codeOf Tryz.f8))) 3 L.b2_L1_d K) fu (bld L.b2_L1_d.keep (mkL L.b2_L1_ss 0 vs) 0 43) (mkOs L.b2_L1_os 0 st) :=
 exMap (fun fu h => @Eq.mp _ _ (Eq.trans (L.b2_L1_eq (gI (gA vs 0)) (gI (gA vs 1)) (gI (gA vs 5)) (cI st 0 0) (cI st 0 1) (cI st 1 0) (cI st 1 1) (cI st 2 0) (cI st 2 1) K fu (gI (gA vs 4)) (gI (gA vs 6))) (by kernel_rfl)) h) (L.b2_L1.out h)
theorem L.b2_L1_ok : AnnOk L.pg (CC L.pg L.Γ_b2 L.Δ_b2) (drawD L.pg L.Γ_b2 L.Δ_b2) 0 (.lift L.b2_L1_d 43 L.b2_L1_F) (.loop (sub [true, true, true, true, true, false, true, false, false] (codeOf Tryz.f8))) :=
 lift_ok (an := .leaf) (ss := L.b2_L1_ss) (os := L.b2_L1_os) (G := L.b2_L1_G) rfl (Nat.le_of_ble_eq_true rfl) (annOk_leaf _) (L.b2_L1_imp)
def L.b2_B (base_Good base_Bad samples perMille : Int) (K : Int -> Int -> Int -> Prop) : Prop :=
 L.d3 base_Good base_Bad (fun rCode rIndex => (bif (!((rCode == 0) && ((rIndex == 0) && true))) then K 0 rCode rIndex else L.d2 samples (fun r => (bif (!r) then K 0 3 (-2) else L.d1 perMille (fun r1 => (bif (!r1) then K 0 3 (-3) else L.b2_L1 samples perMille (i64 (samples + 1)) base_Good base_Bad 0 0 (fun most => K most 0 0)))))))
structure L.b2 (base_Good base_Bad samples perMille : Int) (K : Int -> Int -> Int -> Prop) : Prop where
 out : L.b2_B base_Good base_Bad samples perMille K
def L.b2_ss : List Sh := [.agg [.int .i64, .int .i64], .int .i64, .int .i64]
def L.b2_G (vs : List V) (K : V -> List Ob -> Prop) : Prop := L.b2 (gI ((gC (gA vs 0)).getD 0 .any)) (gI ((gC (gA vs 0)).getD 1 .any)) (gI (gA vs 1)) (gI (gA vs 2)) (fun r0 r1 r2 => K (.tup [.xi r0, .agg [.xi r1, .xi r2]]) [])
def L.b2_S : SemF := fun args K => argF L.b2_ss args fun a => L.b2_G a K
noncomputable abbrev L.b2_N : SemF := run L.pg L.Γ_b2 L.Δ_b2 (.node .leaf (.node .leaf (.node .leaf (.node .leaf (.node .leaf (.node (.node .leaf (.lift L.b2_L1_d 43 L.b2_L1_F)) .leaf)))))) .any Tryz.f8
theorem L.b2_eq (base_Good base_Bad samples perMille : Int) (K : V -> List Ob -> Prop) : L.b2_N [.agg [.xi base_Good, .xi base_Bad], .xi samples, .xi perMille] K = L.b2_B base_Good base_Bad samples perMille (fun r0 r1 r2 => K (.tup [.xi r0, .agg [.xi r1, .xi r2]]) []) := by
 kernel_rfl
theorem L.b2_imp (vs : List V) (K : V -> List Ob -> Prop) : Imp (L.b2_G vs K) (L.b2_N (mkL L.b2_ss 0 vs) K) :=
 Imp.of (Eq.trans (b := L.b2_N [.agg [.xi (gI ((gC (gA vs 0)).getD 0 .any)), .xi (gI ((gC (gA vs 0)).getD 1 .any))], .xi (gI (gA vs 1)), .xi (gI (gA vs 2))] K) (by kernel_rfl) (L.b2_eq (gI ((gC (gA vs 0)).getD 0 .any)) (gI ((gC (gA vs 0)).getD 1 .any)) (gI (gA vs 1)) (gI (gA vs 2)) K)) fun h => (L.b2.out h)
theorem L.b2_ok : SoundFn L.pg 8 L.b2_S :=
 fn_ok (sem := L.b2_N) (ss := L.b2_ss) (G := L.b2_G) (run_ok L.Γ_b2_ok L.Δ_b2_ok Tryz.func8 (ann := (.node .leaf (.node .leaf (.node .leaf (.node .leaf (.node .leaf (.node (.node .leaf (.lift L.b2_L1_d 43 L.b2_L1_F)) .leaf))))))) ⟨(annOk_leaf _), ⟨(annOk_leaf _), ⟨(annOk_leaf _), ⟨(annOk_leaf _), ⟨(annOk_leaf _), ⟨⟨(annOk_leaf _), L.b2_L1_ok⟩, (annOk_leaf _)⟩⟩⟩⟩⟩⟩) L.b2_imp
def L.Γ_e9 : Ctx := ctxC L.Γ_b2 8 L.b2_S
theorem L.Γ_e9_ok : SoundG L.pg L.Γ_e9 := ctxC_ok L.Γ_b2_ok L.b2_ok
def L.Δ_e9 : CtxO := L.Δ_b2
theorem L.Δ_e9_ok : SoundGO L.pg L.Δ_e9 := L.Δ_b2_ok
def L.e9_B (base_Good base_Bad canary_Good canary_Bad : Int) (K : Int -> Int -> Prop) : Prop :=
 L.d3 base_Good base_Bad (fun rCode rIndex => (bif (!((rCode == 0) && ((rIndex == 0) && true))) then K rCode rIndex else L.d3 canary_Good canary_Bad (fun rCode1 rIndex1 => (bif (!((rCode1 == 0) && ((rIndex1 == 0) && true))) then K rCode1 (-2) else K 0 0))))
structure L.e9 (base_Good base_Bad canary_Good canary_Bad : Int) (K : Int -> Int -> Prop) : Prop where
 out : L.e9_B base_Good base_Bad canary_Good canary_Bad K
def L.e9_ss : List Sh := [.agg [.int .i64, .int .i64], .agg [.int .i64, .int .i64]]
def L.e9_G (vs : List V) (K : V -> List Ob -> Prop) : Prop := L.e9 (gI ((gC (gA vs 0)).getD 0 .any)) (gI ((gC (gA vs 0)).getD 1 .any)) (gI ((gC (gA vs 1)).getD 0 .any)) (gI ((gC (gA vs 1)).getD 1 .any)) (fun r0 r1 => K (.agg [.xi r0, .xi r1]) [])
def L.e9_S : SemF := fun args K => argF L.e9_ss args fun a => L.e9_G a K
noncomputable abbrev L.e9_N : SemF := run L.pg L.Γ_e9 L.Δ_e9 .leaf .any Tryz.f52
theorem L.e9_eq (base_Good base_Bad canary_Good canary_Bad : Int) (K : V -> List Ob -> Prop) : L.e9_N [.agg [.xi base_Good, .xi base_Bad], .agg [.xi canary_Good, .xi canary_Bad]] K = L.e9_B base_Good base_Bad canary_Good canary_Bad (fun r0 r1 => K (.agg [.xi r0, .xi r1]) []) := by
 kernel_rfl
theorem L.e9_imp (vs : List V) (K : V -> List Ob -> Prop) : Imp (L.e9_G vs K) (L.e9_N (mkL L.e9_ss 0 vs) K) :=
 Imp.of (Eq.trans (b := L.e9_N [.agg [.xi (gI ((gC (gA vs 0)).getD 0 .any)), .xi (gI ((gC (gA vs 0)).getD 1 .any))], .agg [.xi (gI ((gC (gA vs 1)).getD 0 .any)), .xi (gI ((gC (gA vs 1)).getD 1 .any))]] K) (by kernel_rfl) (L.e9_eq (gI ((gC (gA vs 0)).getD 0 .any)) (gI ((gC (gA vs 0)).getD 1 .any)) (gI ((gC (gA vs 1)).getD 0 .any)) (gI ((gC (gA vs 1)).getD 1 .any)) K)) fun h => (L.e9.out h)
theorem L.e9_ok : SoundFn L.pg 52 L.e9_S :=
 fn_ok (sem := L.e9_N) (ss := L.e9_ss) (G := L.e9_G) (run_ok L.Γ_e9_ok L.Δ_e9_ok Tryz.func52 (ann := .leaf) (annOk_leaf _)) L.e9_imp
def L.Γ_a3 : Ctx := ctxC L.Γ_e9 52 L.e9_S
theorem L.Γ_a3_ok : SoundG L.pg L.Γ_a3 := ctxC_ok L.Γ_e9_ok L.e9_ok
def L.Δ_a3 : CtxO := L.Δ_e9
theorem L.Δ_a3_ok : SoundGO L.pg L.Δ_a3 := L.Δ_e9_ok
def L.a3_J1_B (need1 perMille1 base base1 canary canary1 : Int) (Kr : Int -> Int -> Int -> Prop) : Prop :=
 L.e2 base base1 canary canary1 perMille1 (fun r => (bif r then Kr 3 0 0 else (bif (decide ((i64 (canary + canary1)) < need1)) then Kr 1 0 0 else Kr 2 0 0)))
structure L.a3_J1 (need1 perMille1 base base1 canary canary1 : Int) (Kr : Int -> Int -> Int -> Prop) : Prop where
 out : L.a3_J1_B need1 perMille1 base base1 canary canary1 Kr
def L.a3_J1_d : CutD := { base := 4, vecs := [], flds := [], keep := [2, 3, 4, 5, 9], out := [], rets := [8, 9], ovecs := [], oflds := [], rv := [], rbase := 0 }
def L.a3_J1_ss : List Sh := [.int .i64, .int .i64, .cl 0 0, .cl 1 0, .cl 2 0]
def L.a3_J1_os : List OSh := [.cells [.int .i64, .int .i64], .cells [.int .i64, .int .i64], .cells [.int .i64, .int .i64], .cells [.int .i64, .int .i64]]
def L.a3_J1_G (vs : List V) (st : List Ob) (K : Ex -> St) : Prop := L.a3_J1 (gI (gA vs 0)) (gI (gA vs 1)) (cI st 0 0) (cI st 0 1) (cI st 1 0) (cI st 1 1) (fun q0_ q1_ q2_ => K .ret (bld [8, 9] [.xi q0_, .cl 0 0] 0 43) [.cells [.xi q1_, .xi q2_]])
def L.a3_J1_F (vs : List V) (st : List Ob) (K : Ex -> St) : Prop := fitF L.a3_J1_ss L.a3_J1_os vs st (L.a3_J1_G vs st K)
theorem L.a3_J1_eq (need1 perMille1 base base1 canary canary1 m2 m21 m3 m31 : Int) (K : Ex -> St) : L.a3_J1_B need1 perMille1 base base1 canary canary1 (fun q0_ q1_ q2_ => K .ret (bld [8, 9] [.xi q0_, .cl 0 0] 0 43) [.cells [.xi q1_, .xi q2_]]) = L.ex L.Γ_a3 L.Δ_a3 .leaf (sub [true, true, true] (codeOf Tryz.f39)) (bld L.a3_J1_d.keep [.xi need1, .xi perMille1, .cl 0 0, .cl 1 0, .cl 2 0] 0 43) [.cells [.xi base, .xi base1], .cells [.xi canary, .xi canary1], .cells [.xi m2, .xi m21], .cells [.xi m3, .xi m31]] (cutK L.a3_J1_d K) := by
 kernel_rfl
theorem L.a3_J1_ok (vs : List V) (st : List Ob) (K : Ex -> St) : Imp (L.a3_J1_G vs st K) (L.ex L.Γ_a3 L.Δ_a3 .leaf (sub [true, true, true] (codeOf Tryz.f39)) (bld L.a3_J1_d.keep (mkL L.a3_J1_ss 0 vs) 0 43) (mkOs L.a3_J1_os 0 st) (cutK L.a3_J1_d K)) :=
 Imp.of (Eq.trans (b := L.ex L.Γ_a3 L.Δ_a3 .leaf (sub [true, true, true] (codeOf Tryz.f39)) (bld L.a3_J1_d.keep [.xi (gI (gA vs 0)), .xi (gI (gA vs 1)), .cl 0 0, .cl 1 0, .cl 2 0] 0 43) [.cells [.xi (cI st 0 0), .xi (cI st 0 1)], .cells [.xi (cI st 1 0), .xi (cI st 1 1)], .cells [.xi (cI st 2 0), .xi (cI st 2 1)], .cells [.xi (cI st 3 0), .xi (cI st 3 1)]] (cutK L.a3_J1_d K)) (by kernel_rfl) (Eq.symm (L.a3_J1_eq (gI (gA vs 0)) (gI (gA vs 1)) (cI st 0 0) (cI st 0 1) (cI st 1 0) (cI st 1 1) (cI st 2 0) (cI st 2 1) (cI st 3 0) (cI st 3 1) K))) fun h => (L.a3_J1.out h)
def L.a3_J2_B (v25 : Bool) (Kn : Prop) (Kr : Int -> Int -> Int -> Prop) : Prop :=
 (bif v25 then Kr 0 3 (-3) else Kn)
structure L.a3_J2 (v25 : Bool) (Kn : Prop) (Kr : Int -> Int -> Int -> Prop) : Prop where
 out : L.a3_J2_B v25 Kn Kr
def L.a3_J2_d : CutD := { base := 4, vecs := [], flds := [], keep := [2, 3, 4, 5, 9, 25], out := [2, 3, 4, 5, 9], rets := [8, 9], ovecs := [], oflds := [], rv := [], rbase := 0 }
def L.a3_J2_ss : List Sh := [.int .i64, .int .i64, .cl 0 0, .cl 1 0, .cl 2 0, .bool]
def L.a3_J2_os : List OSh := [.cells [.int .i64, .int .i64], .cells [.int .i64, .int .i64], .cells [.int .i64, .int .i64], .cells [.int .i64, .int .i64]]
def L.a3_J2_G (vs : List V) (st : List Ob) (K : Ex -> St) : Prop := L.a3_J2 (gB (gA vs 5)) (K .normal (bld [2, 3, 4, 5, 9] [.xi (gI (gA vs 0)), .xi (gI (gA vs 1)), .cl 0 0, .cl 1 0, .cl 2 0] 0 43) [.cells [.xi (cI st 0 0), .xi (cI st 0 1)], .cells [.xi (cI st 1 0), .xi (cI st 1 1)], .cells [.xi (cI st 2 0), .xi (cI st 2 1)], .cells [.xi (cI st 3 0), .xi (cI st 3 1)]]) (fun q0_ q1_ q2_ => K .ret (bld [8, 9] [.xi q0_, .cl 0 0] 0 43) [.cells [.xi q1_, .xi q2_]])
def L.a3_J2_F (vs : List V) (st : List Ob) (K : Ex -> St) : Prop := fitF L.a3_J2_ss L.a3_J2_os vs st (L.a3_J2_G vs st K)
theorem L.a3_J2_eq (need1 perMille1 : Int) (v25 : Bool) (base base1 canary canary1 m2 m21 m3 m31 : Int) (K : Ex -> St) : L.a3_J2_B v25 (K .normal (bld [2, 3, 4, 5, 9] [.xi need1, .xi perMille1, .cl 0 0, .cl 1 0, .cl 2 0] 0 43) [.cells [.xi base, .xi base1], .cells [.xi canary, .xi canary1], .cells [.xi m2, .xi m21], .cells [.xi m3, .xi m31]]) (fun q0_ q1_ q2_ => K .ret (bld [8, 9] [.xi q0_, .cl 0 0] 0 43) [.cells [.xi q1_, .xi q2_]]) = L.ex L.Γ_a3 L.Δ_a3 .leaf (sub [true, true, false, true] (codeOf Tryz.f39)) (bld L.a3_J2_d.keep [.xi need1, .xi perMille1, .cl 0 0, .cl 1 0, .cl 2 0, .x (.bool v25)] 0 43) [.cells [.xi base, .xi base1], .cells [.xi canary, .xi canary1], .cells [.xi m2, .xi m21], .cells [.xi m3, .xi m31]] (cutK L.a3_J2_d K) := by
 kernel_rfl
theorem L.a3_J2_ok (vs : List V) (st : List Ob) (K : Ex -> St) : Imp (L.a3_J2_G vs st K) (L.ex L.Γ_a3 L.Δ_a3 .leaf (sub [true, true, false, true] (codeOf Tryz.f39)) (bld L.a3_J2_d.keep (mkL L.a3_J2_ss 0 vs) 0 43) (mkOs L.a3_J2_os 0 st) (cutK L.a3_J2_d K)) :=
 Imp.of (Eq.trans (b := L.ex L.Γ_a3 L.Δ_a3 .leaf (sub [true, true, false, true] (codeOf Tryz.f39)) (bld L.a3_J2_d.keep [.xi (gI (gA vs 0)), .xi (gI (gA vs 1)), .cl 0 0, .cl 1 0, .cl 2 0, .x (.bool (gB (gA vs 5)))] 0 43) [.cells [.xi (cI st 0 0), .xi (cI st 0 1)], .cells [.xi (cI st 1 0), .xi (cI st 1 1)], .cells [.xi (cI st 2 0), .xi (cI st 2 1)], .cells [.xi (cI st 3 0), .xi (cI st 3 1)]] (cutK L.a3_J2_d K)) (by kernel_rfl) (Eq.symm (L.a3_J2_eq (gI (gA vs 0)) (gI (gA vs 1)) (gB (gA vs 5)) (cI st 0 0) (cI st 0 1) (cI st 1 0) (cI st 1 1) (cI st 2 0) (cI st 2 1) (cI st 3 0) (cI st 3 1) K))) fun h => (L.a3_J2.out h)
def L.a3_B (base_Good base_Bad canary_Good canary_Bad need perMille : Int) (K : Int -> Int -> Int -> Prop) : Prop :=
 L.e9 base_Good base_Bad canary_Good canary_Bad (fun rCode rIndex => (bif (!((rCode == 0) && ((rIndex == 0) && true))) then K 0 rCode rIndex else L.d2 need (fun r => (bif (!r) then L.a3_J2 true (L.a3_J1 need perMille base_Good base_Bad canary_Good canary_Bad K) K else L.d1 perMille (fun r1 => L.a3_J2 (bif false then true else (!r1)) (L.a3_J1 need perMille base_Good base_Bad canary_Good canary_Bad K) K)))))
structure L.a3 (base_Good base_Bad canary_Good canary_Bad need perMille : Int) (K : Int -> Int -> Int -> Prop) : Prop where
 out : L.a3_B base_Good base_Bad canary_Good canary_Bad need perMille K
def L.a3_ss : List Sh := [.agg [.int .i64, .int .i64], .agg [.int .i64, .int .i64], .int .i64, .int .i64]
def L.a3_G (vs : List V) (K : V -> List Ob -> Prop) : Prop := L.a3 (gI ((gC (gA vs 0)).getD 0 .any)) (gI ((gC (gA vs 0)).getD 1 .any)) (gI ((gC (gA vs 1)).getD 0 .any)) (gI ((gC (gA vs 1)).getD 1 .any)) (gI (gA vs 2)) (gI (gA vs 3)) (fun r0 r1 r2 => K (.tup [.xi r0, .agg [.xi r1, .xi r2]]) [])
def L.a3_S : SemF := fun args K => argF L.a3_ss args fun a => L.a3_G a K
noncomputable abbrev L.a3_N : SemF := run L.pg L.Γ_a3 L.Δ_a3 (.node .leaf (.node .leaf (.cut (.cut .leaf L.a3_J2_d 43 L.a3_J2_F) L.a3_J1_d 43 L.a3_J1_F))) .any Tryz.f39
theorem L.a3_eq (base_Good base_Bad canary_Good canary_Bad need perMille : Int) (K : V -> List Ob -> Prop) : L.a3_N [.agg [.xi base_Good, .xi base_Bad], .agg [.xi canary_Good, .xi canary_Bad], .xi need, .xi perMille] K = L.a3_B base_Good base_Bad canary_Good canary_Bad need perMille (fun r0 r1 r2 => K (.tup [.xi r0, .agg [.xi r1, .xi r2]]) []) := by
 kernel_rfl
theorem L.a3_imp (vs : List V) (K : V -> List Ob -> Prop) : Imp (L.a3_G vs K) (L.a3_N (mkL L.a3_ss 0 vs) K) :=
 Imp.of (Eq.trans (b := L.a3_N [.agg [.xi (gI ((gC (gA vs 0)).getD 0 .any)), .xi (gI ((gC (gA vs 0)).getD 1 .any))], .agg [.xi (gI ((gC (gA vs 1)).getD 0 .any)), .xi (gI ((gC (gA vs 1)).getD 1 .any))], .xi (gI (gA vs 2)), .xi (gI (gA vs 3))] K) (by kernel_rfl) (L.a3_eq (gI ((gC (gA vs 0)).getD 0 .any)) (gI ((gC (gA vs 0)).getD 1 .any)) (gI ((gC (gA vs 1)).getD 0 .any)) (gI ((gC (gA vs 1)).getD 1 .any)) (gI (gA vs 2)) (gI (gA vs 3)) K)) fun h => (L.a3.out h)
theorem L.a3_ok : SoundFn L.pg 39 L.a3_S :=
 fn_ok (sem := L.a3_N) (ss := L.a3_ss) (G := L.a3_G) (run_ok L.Γ_a3_ok L.Δ_a3_ok Tryz.func39 (ann := (.node .leaf (.node .leaf (.cut (.cut .leaf L.a3_J2_d 43 L.a3_J2_F) L.a3_J1_d 43 L.a3_J1_F)))) ⟨(annOk_leaf _), ⟨(annOk_leaf _), (cut_ok (ay := .leaf) (ss := L.a3_J1_ss) (os := L.a3_J1_os) (G := L.a3_J1_G) rfl (cut_ok (ay := .leaf) (ss := L.a3_J2_ss) (os := L.a3_J2_os) (G := L.a3_J2_G) rfl (annOk_leaf _) (Nat.le_of_ble_eq_true rfl) (Nat.le_of_ble_eq_true rfl) (annOk_leaf _) L.a3_J2_ok) (Nat.le_of_ble_eq_true rfl) (Nat.le_of_ble_eq_true rfl) (annOk_leaf _) L.a3_J1_ok)⟩⟩) L.a3_imp
def L.Γ_b8 : Ctx := ctxC L.Γ_a3 39 L.a3_S
theorem L.Γ_b8_ok : SoundG L.pg L.Γ_b8 := ctxC_ok L.Γ_a3_ok L.a3_ok
def L.Δ_b8 : CtxO := L.Δ_a3
theorem L.Δ_b8_ok : SoundGO L.pg L.Δ_b8 := L.Δ_a3_ok
def L.b8_J1_B (p : (List ((List Int) × L.ya))) (v27 : Bool) (e2 : Int) (Kn : Prop) (Kr : Int -> Prop) : Prop :=
 (bif v27 then Kr 5 else (bif (bif (decide (e2 < 0)) then true else (decide (e2 ≥ (p.length : Int)))) then Kr 3 else Kn))
structure L.b8_J1 (p : (List ((List Int) × L.ya))) (v27 : Bool) (e2 : Int) (Kn : Prop) (Kr : Int -> Prop) : Prop where
 out : L.b8_J1_B p v27 e2 Kn Kr
def L.b8_J1_d : CutD := { base := 1, vecs := [], flds := [], keep := [0, 3, 27], out := [], rets := [4], ovecs := [], oflds := [], rv := [], rbase := 0 }
def L.b8_J1_ss : List Sh := [.rc [.ro L.T0, .int .i64, .int .i64, .int .i64, .int .i64] 0, .cl 0 0, .bool]
def L.b8_J1_os : List OSh := [.cells [.int .i64, .int .i64, .int .i64, .int .i64, .int .i64]]
def L.b8_J1_G (vs : List V) (st : List Ob) (K : Ex -> St) : Prop := L.b8_J1 (gR L.T0 ((gC (gA vs 0)).getD 0 .any)) (gB (gA vs 2)) (cI st 0 2) (K .normal (bld [] [] 0 63) [.cells [.xi (cI st 0 0), .xi (cI st 0 1), .xi (cI st 0 2), .xi (cI st 0 3), .xi (cI st 0 4)]]) (fun q0_ => K .ret (bld [4] [.xi q0_] 0 63) [])
def L.b8_J1_F (vs : List V) (st : List Ob) (K : Ex -> St) : Prop := fitF L.b8_J1_ss L.b8_J1_os vs st (L.b8_J1_G vs st K)
theorem L.b8_J1_eq (p : (List ((List Int) × L.ya))) (p1 p2 p3 p4 : Int) (v27 : Bool) (e e1 e2 e3 e4 : Int) (K : Ex -> St) : L.b8_J1_B p v27 e2 (K .normal (bld [] [] 0 63) [.cells [.xi e, .xi e1, .xi e2, .xi e3, .xi e4]]) (fun q0_ => K .ret (bld [4] [.xi q0_] 0 63) []) = L.ex L.Γ_b8 L.Δ_b8 .leaf (sub [true, true, true, false, false, true, true, true] (codeOf Tryz.f53)) (bld L.b8_J1_d.keep [.rc [.ro L.T0 p, .xi p1, .xi p2, .xi p3, .xi p4] 0, .cl 0 0, .x (.bool v27)] 0 63) [.cells [.xi e, .xi e1, .xi e2, .xi e3, .xi e4]] (cutK L.b8_J1_d K) := by
 kernel_rfl
theorem L.b8_J1_ok (vs : List V) (st : List Ob) (K : Ex -> St) : Imp (L.b8_J1_G vs st K) (L.ex L.Γ_b8 L.Δ_b8 .leaf (sub [true, true, true, false, false, true, true, true] (codeOf Tryz.f53)) (bld L.b8_J1_d.keep (mkL L.b8_J1_ss 0 vs) 0 63) (mkOs L.b8_J1_os 0 st) (cutK L.b8_J1_d K)) :=
 Imp.of (Eq.trans (b := L.ex L.Γ_b8 L.Δ_b8 .leaf (sub [true, true, true, false, false, true, true, true] (codeOf Tryz.f53)) (bld L.b8_J1_d.keep [.rc [.ro L.T0 (gR L.T0 ((gC (gA vs 0)).getD 0 .any)), .xi (gI ((gC (gA vs 0)).getD 1 .any)), .xi (gI ((gC (gA vs 0)).getD 2 .any)), .xi (gI ((gC (gA vs 0)).getD 3 .any)), .xi (gI ((gC (gA vs 0)).getD 4 .any))] 0, .cl 0 0, .x (.bool (gB (gA vs 2)))] 0 63) [.cells [.xi (cI st 0 0), .xi (cI st 0 1), .xi (cI st 0 2), .xi (cI st 0 3), .xi (cI st 0 4)]] (cutK L.b8_J1_d K)) (by kernel_rfl) (Eq.symm (L.b8_J1_eq (gR L.T0 ((gC (gA vs 0)).getD 0 .any)) (gI ((gC (gA vs 0)).getD 1 .any)) (gI ((gC (gA vs 0)).getD 2 .any)) (gI ((gC (gA vs 0)).getD 3 .any)) (gI ((gC (gA vs 0)).getD 4 .any)) (gB (gA vs 2)) (cI st 0 0) (cI st 0 1) (cI st 0 2) (cI st 0 3) (cI st 0 4) K))) fun h => (L.b8_J1.out h)
def L.b8_B (p_rings : (List ((List Int) × L.ya))) (p_base_Good p_base_Bad p_need p_perMille e_Kind e_Version e_Ring e_Counts_Good e_Counts_Bad : Int) (K : Int -> Prop) : Prop :=
 (bif (bif (decide (e_Kind < 1)) then true else (decide (e_Kind > 4))) then K 4 else (bif (bif (!(bif (e_Kind == 1) then true else (e_Kind == 4))) then (e_Version != 0) else false) then L.b8_J1 p_rings (bif (!(bif (e_Kind == 1) then true else (e_Kind == 4))) then (e_Version != 0) else false) e_Ring (K 0) K else (bif (bif (bif (e_Kind == 1) then true else (e_Kind == 4)) then (e_Ring != 0) else false) then L.b8_J1 p_rings (bif (bif (e_Kind == 1) then true else (e_Kind == 4)) then (e_Ring != 0) else false) e_Ring (K 0) K else L.b8_J1 p_rings (bif (!(e_Kind == 2)) then (!((e_Counts_Good == 0) && ((e_Counts_Bad == 0) && true))) else false) e_Ring (K 0) K)))
structure L.b8 (p_rings : (List ((List Int) × L.ya))) (p_base_Good p_base_Bad p_need p_perMille e_Kind e_Version e_Ring e_Counts_Good e_Counts_Bad : Int) (K : Int -> Prop) : Prop where
 out : L.b8_B p_rings p_base_Good p_base_Bad p_need p_perMille e_Kind e_Version e_Ring e_Counts_Good e_Counts_Bad K
def L.b8_ss : List Sh := [.rc [.ro L.T0, .int .i64, .int .i64, .int .i64, .int .i64] 0, .agg [.int .i64, .int .i64, .int .i64, .int .i64, .int .i64]]
def L.b8_G (vs : List V) (K : V -> List Ob -> Prop) : Prop := L.b8 (gR L.T0 ((gC (gA vs 0)).getD 0 .any)) (gI ((gC (gA vs 0)).getD 1 .any)) (gI ((gC (gA vs 0)).getD 2 .any)) (gI ((gC (gA vs 0)).getD 3 .any)) (gI ((gC (gA vs 0)).getD 4 .any)) (gI ((gC (gA vs 1)).getD 0 .any)) (gI ((gC (gA vs 1)).getD 1 .any)) (gI ((gC (gA vs 1)).getD 2 .any)) (gI ((gC (gA vs 1)).getD 3 .any)) (gI ((gC (gA vs 1)).getD 4 .any)) (fun r0 => K (.xi r0) [])
def L.b8_S : SemF := fun args K => argF L.b8_ss args fun a => L.b8_G a K
noncomputable abbrev L.b8_N : SemF := run L.pg L.Γ_b8 L.Δ_b8 (.node .leaf (.node .leaf (.node .leaf (.node (.node .leaf (.node .leaf (.cut .leaf L.b8_J1_d 63 L.b8_J1_F))) .leaf)))) .any Tryz.f53
theorem L.b8_eq (p_rings : (List ((List Int) × L.ya))) (p_base_Good p_base_Bad p_need p_perMille e_Kind e_Version e_Ring e_Counts_Good e_Counts_Bad : Int) (K : V -> List Ob -> Prop) : L.b8_N [.rc [.ro L.T0 p_rings, .xi p_base_Good, .xi p_base_Bad, .xi p_need, .xi p_perMille] 0, .agg [.xi e_Kind, .xi e_Version, .xi e_Ring, .xi e_Counts_Good, .xi e_Counts_Bad]] K = L.b8_B p_rings p_base_Good p_base_Bad p_need p_perMille e_Kind e_Version e_Ring e_Counts_Good e_Counts_Bad (fun r0 => K (.xi r0) []) := by
 kernel_rfl
theorem L.b8_imp (vs : List V) (K : V -> List Ob -> Prop) : Imp (L.b8_G vs K) (L.b8_N (mkL L.b8_ss 0 vs) K) :=
 Imp.of (Eq.trans (b := L.b8_N [.rc [.ro L.T0 (gR L.T0 ((gC (gA vs 0)).getD 0 .any)), .xi (gI ((gC (gA vs 0)).getD 1 .any)), .xi (gI ((gC (gA vs 0)).getD 2 .any)), .xi (gI ((gC (gA vs 0)).getD 3 .any)), .xi (gI ((gC (gA vs 0)).getD 4 .any))] 0, .agg [.xi (gI ((gC (gA vs 1)).getD 0 .any)), .xi (gI ((gC (gA vs 1)).getD 1 .any)), .xi (gI ((gC (gA vs 1)).getD 2 .any)), .xi (gI ((gC (gA vs 1)).getD 3 .any)), .xi (gI ((gC (gA vs 1)).getD 4 .any))]] K) (by kernel_rfl) (L.b8_eq (gR L.T0 ((gC (gA vs 0)).getD 0 .any)) (gI ((gC (gA vs 0)).getD 1 .any)) (gI ((gC (gA vs 0)).getD 2 .any)) (gI ((gC (gA vs 0)).getD 3 .any)) (gI ((gC (gA vs 0)).getD 4 .any)) (gI ((gC (gA vs 1)).getD 0 .any)) (gI ((gC (gA vs 1)).getD 1 .any)) (gI ((gC (gA vs 1)).getD 2 .any)) (gI ((gC (gA vs 1)).getD 3 .any)) (gI ((gC (gA vs 1)).getD 4 .any)) K)) fun h => (L.b8.out h)
theorem L.b8_ok : SoundFn L.pg 53 L.b8_S :=
 fn_ok (sem := L.b8_N) (ss := L.b8_ss) (G := L.b8_G) (run_ok L.Γ_b8_ok L.Δ_b8_ok Tryz.func53 (ann := (.node .leaf (.node .leaf (.node .leaf (.node (.node .leaf (.node .leaf (.cut .leaf L.b8_J1_d 63 L.b8_J1_F))) .leaf))))) ⟨(annOk_leaf _), ⟨(annOk_leaf _), ⟨(annOk_leaf _), ⟨⟨(annOk_leaf _), ⟨(annOk_leaf _), (cut_ok (ay := .leaf) (ss := L.b8_J1_ss) (os := L.b8_J1_os) (G := L.b8_J1_G) rfl (annOk_leaf _) (Nat.le_of_ble_eq_true rfl) (Nat.le_of_ble_eq_true rfl) (annOk_leaf _) L.b8_J1_ok)⟩⟩, (annOk_leaf _)⟩⟩⟩⟩) L.b8_imp
def L.Γ_c5 : Ctx := ctxC L.Γ_b8 53 L.b8_S
theorem L.Γ_c5_ok : SoundG L.pg L.Γ_c5 := ctxC_ok L.Γ_b8_ok L.b8_ok
def L.Δ_c5 : CtxO := L.Δ_b8
theorem L.Δ_c5_ok : SoundGO L.pg L.Δ_c5 := L.Δ_b8_ok
def L.c5_B (version p p1 p2 p3 : Int) (m1 : (List ((List Int) × L.ya))) (K : Int -> Int -> Int -> Int -> Int -> (List ((List Int) × L.ya)) -> Prop) : Prop :=
 (inB 0 m1.length) /\ (bif (bif (decide (version < 1)) then true else (decide (version > 1000000000))) then K 3 p p1 p2 p3 m1 else (bif (((m1.getD ((0 : Int).toNat) ([], (0, (0, 0)))).2.1) != 0) then K 15 p p1 p2 p3 m1 else ((((decide ((((m1.getD ((0 : Int).toNat) ([], (0, (0, 0)))).1).length : Int) > 0)) == true) = true -> inB (i64 ((((m1.getD ((0 : Int).toNat) ([], (0, (0, 0)))).1).length : Int) - 1)) ((m1.getD ((0 : Int).toNat) ([], (0, (0, 0)))).1).length)) /\ (bif (bif (decide ((((m1.getD ((0 : Int).toNat) ([], (0, (0, 0)))).1).length : Int) > 0)) then (decide (version <= (((m1.getD ((0 : Int).toNat) ([], (0, (0, 0)))).1).getD ((i64 ((((m1.getD ((0 : Int).toNat) ([], (0, (0, 0)))).1).length : Int) - 1)).toNat) 0))) else false) then K 16 p p1 p2 p3 m1 else K 0 p p1 p2 p3 ((m1.set ((0 : Int).toNat) ((m1.getD ((0 : Int).toNat) ([], (0, (0, 0)))).1, (version, ((m1.getD ((0 : Int).toNat) ([], (0, (0, 0)))).2.2.1, (m1.getD ((0 : Int).toNat) ([], (0, (0, 0)))).2.2.2)))).set ((0 : Int).toNat) (((m1.set ((0 : Int).toNat) ((m1.getD ((0 : Int).toNat) ([], (0, (0, 0)))).1, (version, ((m1.getD ((0 : Int).toNat) ([], (0, (0, 0)))).2.2.1, (m1.getD ((0 : Int).toNat) ([], (0, (0, 0)))).2.2.2)))).getD ((0 : Int).toNat) ([], (0, (0, 0)))).1, (((m1.set ((0 : Int).toNat) ((m1.getD ((0 : Int).toNat) ([], (0, (0, 0)))).1, (version, ((m1.getD ((0 : Int).toNat) ([], (0, (0, 0)))).2.2.1, (m1.getD ((0 : Int).toNat) ([], (0, (0, 0)))).2.2.2)))).getD ((0 : Int).toNat) ([], (0, (0, 0)))).2.1, (0, 0)))))))
structure L.c5 (version p p1 p2 p3 : Int) (m1 : (List ((List Int) × L.ya))) (K : Int -> Int -> Int -> Int -> Int -> (List ((List Int) × L.ya)) -> Prop) : Prop where
 out : L.c5_B version p p1 p2 p3 m1 K
def L.c5_ss : List Sh := [.cl 0 0, .int .i64]
def L.c5_os : List OSh := [.cells [.vec 1, .int .i64, .int .i64, .int .i64, .int .i64], .vec L.T0 true]
def L.c5_G (vs : List V) (st : List Ob) (K : V -> List Ob -> Prop) : Prop := L.c5 (gI (gA vs 1)) (cI st 0 1) (cI st 0 2) (cI st 0 3) (cI st 0 4) (oX L.T0 (gD st 1)) (fun r0 r1 r2 r3 r4 r5 => K (.xi r0) [.cells [.vec 1, .xi r1, .xi r2, .xi r3, .xi r4], .vec L.T0 0 r5])
def L.c5_S : SemO := fun args st K => argO L.c5_ss L.c5_os args st fun a s => L.c5_G a s K
theorem L.c5_eq (version p p1 p2 p3 : Int) (m1 : (List ((List Int) × L.ya))) (K : V -> List Ob -> Prop) : runH L.pg L.Γ_c5 L.Δ_c5 .leaf .any [] Tryz.f54 false 2 [.cl 0 0, .xi version] [.cells [.vec 1, .xi p, .xi p1, .xi p2, .xi p3], .vec L.T0 0 m1] K = L.c5_B version p p1 p2 p3 m1 (fun r0 r1 r2 r3 r4 r5 => K (.xi r0) [.cells [.vec 1, .xi r1, .xi r2, .xi r3, .xi r4], .vec L.T0 0 r5]) := by
 kernel_rfl
theorem L.c5_imp (vs : List V) (st : List Ob) (K : V -> List Ob -> Prop) : Imp (L.c5_G vs st K) (runH L.pg L.Γ_c5 L.Δ_c5 .leaf .any [] Tryz.f54 false 2 (mkL L.c5_ss 0 vs) (mkOs L.c5_os 0 st) K) :=
 Imp.of (Eq.trans (b := runH L.pg L.Γ_c5 L.Δ_c5 .leaf .any [] Tryz.f54 false 2 [.cl 0 0, .xi (gI (gA vs 1))] [.cells [.vec 1, .xi (cI st 0 1), .xi (cI st 0 2), .xi (cI st 0 3), .xi (cI st 0 4)], .vec L.T0 0 (oX L.T0 (gD st 1))] K) (by kernel_rfl) (L.c5_eq (gI (gA vs 1)) (cI st 0 1) (cI st 0 2) (cI st 0 3) (cI st 0 4) (oX L.T0 (gD st 1)) K)) fun h => (L.c5.out h)
theorem L.c5_ok : SoundO L.pg 54 L.c5_S :=
 fnO_ok (sem := runH L.pg L.Γ_c5 L.Δ_c5 .leaf .any [] Tryz.f54 false 2) (ss := L.c5_ss) (os := L.c5_os) (G := L.c5_G) (runH_ok L.Γ_c5_ok L.Δ_c5_ok Tryz.func54 (ann := .leaf) rfl (annOk_leaf _)) L.c5_imp
def L.Γ_c4 : Ctx := L.Γ_c5
theorem L.Γ_c4_ok : SoundG L.pg L.Γ_c4 := L.Γ_c5_ok
def L.Δ_c4 : CtxO := ctxE L.Δ_c5 54 [.any, .any] L.c5_ss L.c5_os L.c5_G
theorem L.Δ_c4_ok : SoundGO L.pg L.Δ_c4 := ctxE_ok L.Δ_c5_ok L.c5_ok
def L.c4_B (e e1 e2 e3 e4 p p1 p2 p3 : Int) (m1 : (List ((List Int) × L.ya))) (K : Int -> Int -> Int -> Int -> Int -> (List ((List Int) × L.ya)) -> Prop) : Prop :=
 L.b8 m1 p p1 p2 p3 e e1 e2 e3 e4 (fun r => (bif (r != 0) then K r p p1 p2 p3 m1 else (bif (e == 1) then L.c5 e1 p p1 p2 p3 m1 (fun r1 p4 p5 p6 p7 m => K r1 p4 p5 p6 p7 m) else (bif (e == 2) then False else (bif (e == 3) then False else False)))))
structure L.c4 (e e1 e2 e3 e4 p p1 p2 p3 : Int) (m1 : (List ((List Int) × L.ya))) (K : Int -> Int -> Int -> Int -> Int -> (List ((List Int) × L.ya)) -> Prop) : Prop where
 out : L.c4_B e e1 e2 e3 e4 p p1 p2 p3 m1 K
def L.c4_ss : List Sh := [.cl 0 0, .agg [.int .i64, .int .i64, .int .i64, .int .i64, .int .i64]]
def L.c4_os : List OSh := [.cells [.vec 1, .int .i64, .int .i64, .int .i64, .int .i64], .vec L.T0 true]
def L.c4_G (vs : List V) (st : List Ob) (K : V -> List Ob -> Prop) : Prop := L.c4 (gI ((gC (gA vs 1)).getD 0 .any)) (gI ((gC (gA vs 1)).getD 1 .any)) (gI ((gC (gA vs 1)).getD 2 .any)) (gI ((gC (gA vs 1)).getD 3 .any)) (gI ((gC (gA vs 1)).getD 4 .any)) (cI st 0 1) (cI st 0 2) (cI st 0 3) (cI st 0 4) (oX L.T0 (gD st 1)) (fun r0 r1 r2 r3 r4 r5 => K (.xi r0) [.cells [.vec 1, .xi r1, .xi r2, .xi r3, .xi r4], .vec L.T0 0 r5])
def L.c4_S : SemO := fun args st K => argO L.c4_ss L.c4_os args st fun a s => L.c4_G a s K
theorem L.c4_eq (e e1 e2 e3 e4 p p1 p2 p3 : Int) (m1 : (List ((List Int) × L.ya))) (K : V -> List Ob -> Prop) : runH L.pg L.Γ_c4 L.Δ_c4 .leaf .any [] Tryz.f40 false 2 [.cl 0 0, .agg [.xi e, .xi e1, .xi e2, .xi e3, .xi e4]] [.cells [.vec 1, .xi p, .xi p1, .xi p2, .xi p3], .vec L.T0 0 m1] K = L.c4_B e e1 e2 e3 e4 p p1 p2 p3 m1 (fun r0 r1 r2 r3 r4 r5 => K (.xi r0) [.cells [.vec 1, .xi r1, .xi r2, .xi r3, .xi r4], .vec L.T0 0 r5]) := by
 kernel_rfl
theorem L.c4_imp (vs : List V) (st : List Ob) (K : V -> List Ob -> Prop) : Imp (L.c4_G vs st K) (runH L.pg L.Γ_c4 L.Δ_c4 .leaf .any [] Tryz.f40 false 2 (mkL L.c4_ss 0 vs) (mkOs L.c4_os 0 st) K) :=
 Imp.of (Eq.trans (b := runH L.pg L.Γ_c4 L.Δ_c4 .leaf .any [] Tryz.f40 false 2 [.cl 0 0, .agg [.xi (gI ((gC (gA vs 1)).getD 0 .any)), .xi (gI ((gC (gA vs 1)).getD 1 .any)), .xi (gI ((gC (gA vs 1)).getD 2 .any)), .xi (gI ((gC (gA vs 1)).getD 3 .any)), .xi (gI ((gC (gA vs 1)).getD 4 .any))]] [.cells [.vec 1, .xi (cI st 0 1), .xi (cI st 0 2), .xi (cI st 0 3), .xi (cI st 0 4)], .vec L.T0 0 (oX L.T0 (gD st 1))] K) (by kernel_rfl) (L.c4_eq (gI ((gC (gA vs 1)).getD 0 .any)) (gI ((gC (gA vs 1)).getD 1 .any)) (gI ((gC (gA vs 1)).getD 2 .any)) (gI ((gC (gA vs 1)).getD 3 .any)) (gI ((gC (gA vs 1)).getD 4 .any)) (cI st 0 1) (cI st 0 2) (cI st 0 3) (cI st 0 4) (oX L.T0 (gD st 1)) K)) fun h => (L.c4.out h)
theorem L.c4_ok : SoundO L.pg 40 L.c4_S :=
 fnO_ok (sem := runH L.pg L.Γ_c4 L.Δ_c4 .leaf .any [] Tryz.f40 false 2) (ss := L.c4_ss) (os := L.c4_os) (G := L.c4_G) (runH_ok L.Γ_c4_ok L.Δ_c4_ok Tryz.func40 (ann := .leaf) rfl (annOk_leaf _)) L.c4_imp
def L.Γ_a1 : Ctx := L.Γ_c4
theorem L.Γ_a1_ok : SoundG L.pg L.Γ_a1 := L.Γ_c4_ok
def L.Δ_a1 : CtxO := ctxE L.Δ_c4 40 [.any, .any] L.c4_ss L.c4_os L.c4_G
theorem L.Δ_a1_ok : SoundGO L.pg L.Δ_a1 := ctxE_ok L.Δ_c4_ok L.c4_ok
def L.a1_L1_b (v50 : (List (Int × (Int × L.ya)))) (v51 v52 : Int) (m31 : (List ((List Int) × L.ya))) (p4 p5 p6 p7 : Int) (self : Int -> (List ((List Int) × L.ya)) -> Int -> Int -> Int -> Int -> Prop) (Kx0 : (List ((List Int) × L.ya)) -> Int -> Int -> Int -> Int -> Prop) (Kr : Int -> Int -> (List ((List Int) × L.ya)) -> Int -> Int -> Int -> Int -> Prop) : Prop :=
 (bif (decide (v52 < v51)) then (inB v52 v50.length) /\ L.c4 ((v50.getD v52.toNat (0, (0, (0, (0, 0))))).1) ((v50.getD v52.toNat (0, (0, (0, (0, 0))))).2.1) ((v50.getD v52.toNat (0, (0, (0, (0, 0))))).2.2.1) ((v50.getD v52.toNat (0, (0, (0, (0, 0))))).2.2.2.1) ((v50.getD v52.toNat (0, (0, (0, (0, 0))))).2.2.2.2) p4 p5 p6 p7 m31 (fun r1 p8 p9 p10 p11 m => (bif (r1 != 0) then Kr r1 v52 m p8 p9 p10 p11 else self (i64 (v52 + 1)) m p8 p9 p10 p11)) else Kx0 m31 p4 p5 p6 p7)
def L.a1_L1_R (v50 : (List (Int × (Int × L.ya)))) (v51 : Int) : Nat -> Int -> (List ((List Int) × L.ya)) -> Int -> Int -> Int -> Int -> ((List ((List Int) × L.ya)) -> Int -> Int -> Int -> Int -> Prop) -> (Int -> Int -> (List ((List Int) × L.ya)) -> Int -> Int -> Int -> Int -> Prop) -> Prop
 | 0, _, _, _, _, _, _, _, _ => False
 | fu + 1, v52, m31, p4, p5, p6, p7, Kx0, Kr => L.a1_L1_b v50 v51 v52 m31 p4 p5 p6 p7 (fun v52 m31 p4 p5 p6 p7 => L.a1_L1_R v50 v51 fu v52 m31 p4 p5 p6 p7 Kx0 Kr) Kx0 Kr
structure L.a1_L1 (v50 : (List (Int × (Int × L.ya)))) (v51 v52 : Int) (m31 : (List ((List Int) × L.ya))) (p4 p5 p6 p7 : Int) (Kx0 : (List ((List Int) × L.ya)) -> Int -> Int -> Int -> Int -> Prop) (Kr : Int -> Int -> (List ((List Int) × L.ya)) -> Int -> Int -> Int -> Int -> Prop) : Prop where
 out : ∃ fu, L.a1_L1_R v50 v51 fu v52 m31 p4 p5 p6 p7 Kx0 Kr
def L.a1_L1_d : LoopD := { base := 5, vecs := [], flds := [], keep := [11, 14, 50, 51, 52], out := [11, 14], rets := [10, 11], rv := [], rbase := 5 }
def L.a1_L1_ss : List Sh := [.cl 1 0, .cl 4 0, .ro (.pair (.int .i64) L.T1), .int .i64, .int .i64]
def L.a1_L1_os : List OSh := [.cells [.int .i64, .int .i64], .cells [.int .i64, .int .i64], .cells [.int .i64, .int .i64], .vec L.T0 true, .cells [.vec 3, .int .i64, .int .i64, .int .i64, .int .i64]]
def L.a1_L1_G (vs : List V) (st : List Ob) (K : Ex -> St) : Prop := L.a1_L1 (gR (.pair (.int .i64) L.T1) (gA vs 2)) (gI (gA vs 3)) (gI (gA vs 4)) (oX L.T0 (gD st 3)) (cI st 4 1) (cI st 4 2) (cI st 4 3) (cI st 4 4) (fun q0_ q1_ q2_ q3_ q4_ => K (.exit 0) (bld [11, 14] [.cl 1 0, .cl 4 0] 0 71) [.cells [.xi (cI st 0 0), .xi (cI st 0 1)], .cells [.xi (cI st 1 0), .xi (cI st 1 1)], .cells [.xi (cI st 2 0), .xi (cI st 2 1)], .vec L.T0 0 q0_, .cells [.vec 3, .xi q1_, .xi q2_, .xi q3_, .xi q4_]]) (fun q0_ q1_ q2_ q3_ q4_ q5_ q6_ => K .ret (bld [10, 11] [.x (.slice none 0 0), .cl 1 0] 0 71) [.cells [.xi (cI st 0 0), .xi (cI st 0 1)], .cells [.xi q0_, .xi q1_], .cells [.xi (cI st 2 0), .xi (cI st 2 1)], .vec L.T0 0 q2_, .cells [.vec 3, .xi q3_, .xi q4_, .xi q5_, .xi q6_]])
def L.a1_L1_F (vs : List V) (st : List Ob) (K : Ex -> St) : Prop := fitF L.a1_L1_ss L.a1_L1_os vs st (L.a1_L1_G vs st K)
theorem L.a1_L1_eq (v50 : (List (Int × (Int × L.ya)))) (v51 m02 m03 m12 m13 m22 m23 : Int) (K : Ex -> St) : ∀ (fu : Nat) (v52 : Int) (m31 : (List ((List Int) × L.ya))) (p4 : Int) (p5 : Int) (p6 : Int) (p7 : Int), L.a1_L1_R v50 v51 fu v52 m31 p4 p5 p6 p7 (fun q0_ q1_ q2_ q3_ q4_ => K (.exit 0) (bld [11, 14] [.cl 1 0, .cl 4 0] 0 71) [.cells [.xi m02, .xi m03], .cells [.xi m12, .xi m13], .cells [.xi m22, .xi m23], .vec L.T0 0 q0_, .cells [.vec 3, .xi q1_, .xi q2_, .xi q3_, .xi q4_]]) (fun q0_ q1_ q2_ q3_ q4_ q5_ q6_ => K .ret (bld [10, 11] [.x (.slice none 0 0), .cl 1 0] 0 71) [.cells [.xi m02, .xi m03], .cells [.xi q0_, .xi q1_], .cells [.xi m22, .xi m23], .vec L.T0 0 q2_, .cells [.vec 3, .xi q3_, .xi q4_, .xi q5_, .xi q6_]]) = iterL (stepL (L.ex L.Γ_a1 L.Δ_a1 .leaf (sub [true, true, true, true, true, false, true, false, false] (codeOf Tryz.f26))) 5 L.a1_L1_d K) fu (bld L.a1_L1_d.keep [.cl 1 0, .cl 4 0, .ro (.pair (.int .i64) L.T1) v50, .xi v51, .xi v52] 0 71) [.cells [.xi m02, .xi m03], .cells [.xi m12, .xi m13], .cells [.xi m22, .xi m23], .vec L.T0 0 m31, .cells [.vec 3, .xi p4, .xi p5, .xi p6, .xi p7]] := by
 intro fu
 induction fu with
 | zero => intros; rfl
 | succ fu ih =>
  intro v52 m31 p4 p5 p6 p7
  have e : (fun v52 m31 p4 p5 p6 p7 => L.a1_L1_R v50 v51 fu v52 m31 p4 p5 p6 p7 (fun q0_ q1_ q2_ q3_ q4_ => K (.exit 0) (bld [11, 14] [.cl 1 0, .cl 4 0] 0 71) [.cells [.xi m02, .xi m03], .cells [.xi m12, .xi m13], .cells [.xi m22, .xi m23], .vec L.T0 0 q0_, .cells [.vec 3, .xi q1_, .xi q2_, .xi q3_, .xi q4_]]) (fun q0_ q1_ q2_ q3_ q4_ q5_ q6_ => K .ret (bld [10, 11] [.x (.slice none 0 0), .cl 1 0] 0 71) [.cells [.xi m02, .xi m03], .cells [.xi q0_, .xi q1_], .cells [.xi m22, .xi m23], .vec L.T0 0 q2_, .cells [.vec 3, .xi q3_, .xi q4_, .xi q5_, .xi q6_]])) = fun v52 m31 p4 p5 p6 p7 => iterL (stepL (L.ex L.Γ_a1 L.Δ_a1 .leaf (sub [true, true, true, true, true, false, true, false, false] (codeOf Tryz.f26))) 5 L.a1_L1_d K) fu (bld L.a1_L1_d.keep [.cl 1 0, .cl 4 0, .ro (.pair (.int .i64) L.T1) v50, .xi v51, .xi v52] 0 71) [.cells [.xi m02, .xi m03], .cells [.xi m12, .xi m13], .cells [.xi m22, .xi m23], .vec L.T0 0 m31, .cells [.vec 3, .xi p4, .xi p5, .xi p6, .xi p7]] := by
   funext v52 m31 p4 p5 p6 p7; exact ih v52 m31 p4 p5 p6 p7
  show L.a1_L1_b v50 v51 v52 m31 p4 p5 p6 p7 (fun v52 m31 p4 p5 p6 p7 => L.a1_L1_R v50 v51 fu v52 m31 p4 p5 p6 p7 (fun q0_ q1_ q2_ q3_ q4_ => K (.exit 0) (bld [11, 14] [.cl 1 0, .cl 4 0] 0 71) [.cells [.xi m02, .xi m03], .cells [.xi m12, .xi m13], .cells [.xi m22, .xi m23], .vec L.T0 0 q0_, .cells [.vec 3, .xi q1_, .xi q2_, .xi q3_, .xi q4_]]) (fun q0_ q1_ q2_ q3_ q4_ q5_ q6_ => K .ret (bld [10, 11] [.x (.slice none 0 0), .cl 1 0] 0 71) [.cells [.xi m02, .xi m03], .cells [.xi q0_, .xi q1_], .cells [.xi m22, .xi m23], .vec L.T0 0 q2_, .cells [.vec 3, .xi q3_, .xi q4_, .xi q5_, .xi q6_]])) (fun q0_ q1_ q2_ q3_ q4_ => K (.exit 0) (bld [11, 14] [.cl 1 0, .cl 4 0] 0 71) [.cells [.xi m02, .xi m03], .cells [.xi m12, .xi m13], .cells [.xi m22, .xi m23], .vec L.T0 0 q0_, .cells [.vec 3, .xi q1_, .xi q2_, .xi q3_, .xi q4_]]) (fun q0_ q1_ q2_ q3_ q4_ q5_ q6_ => K .ret (bld [10, 11] [.x (.slice none 0 0), .cl 1 0] 0 71) [.cells [.xi m02, .xi m03], .cells [.xi q0_, .xi q1_], .cells [.xi m22, .xi m23], .vec L.T0 0 q2_, .cells [.vec 3, .xi q3_, .xi q4_, .xi q5_, .xi q6_]]) = _
  rw [e]
  kernel_rfl
theorem L.a1_L1_imp (vs : List V) (st : List Ob) (K : Ex -> St) (h : L.a1_L1_G vs st K) : ∃ fu, iterL (stepL (L.ex L.Γ_a1 L.Δ_a1 .leaf (sub [true, true, true, true, true, false, true, false, false] (codeOf Tryz.f26))) 5 L.a1_L1_d K) fu (bld L.a1_L1_d.keep (mkL L.a1_L1_ss 0 vs) 0 71) (mkOs L.a1_L1_os 0 st) :=
 exMap (fun fu h => @Eq.mp _ _ (Eq.trans (L.a1_L1_eq (gR (.pair (.int .i64) L.T1) (gA vs 2)) (gI (gA vs 3)) (cI st 0 0) (cI st 0 1) (cI st 1 0) (cI st 1 1) (cI st 2 0) (cI st 2 1) K fu (gI (gA vs 4)) (oX L.T0 (gD st 3)) (cI st 4 1) (cI st 4 2) (cI st 4 3) (cI st 4 4)) (by kernel_rfl)) h) (L.a1_L1.out h)
theorem L.a1_L1_ok : AnnOk L.pg (CC L.pg L.Γ_a1 L.Δ_a1) (drawD L.pg L.Γ_a1 L.Δ_a1) 0 (.lift L.a1_L1_d 71 L.a1_L1_F) (.loop (sub [true, true, true, true, true, false, true, false, false] (codeOf Tryz.f26))) :=
 lift_ok (an := .leaf) (ss := L.a1_L1_ss) (os := L.a1_L1_os) (G := L.a1_L1_G) rfl (Nat.le_of_ble_eq_true rfl) (annOk_leaf _) (L.a1_L1_imp)
def L.a1_J1_B (events1 : (List (Int × (Int × L.ya)))) (m3 : (List ((List Int) × L.ya))) (p p1 p2 p3 : Int) (Kr : (List ((List Int) × L.ya)) -> Int -> Int -> Prop) : Prop :=
 L.a1_L1 events1 (events1.length : Int) 0 m3 p p1 p2 p3 (fun m p4 p5 p6 p7 => Kr m 0 0) (fun m4 m5 m6 p8 p9 p10 p11 => Kr ([] : List ((List Int) × L.ya)) m4 m5)
structure L.a1_J1 (events1 : (List (Int × (Int × L.ya)))) (m3 : (List ((List Int) × L.ya))) (p p1 p2 p3 : Int) (Kr : (List ((List Int) × L.ya)) -> Int -> Int -> Prop) : Prop where
 out : L.a1_J1_B events1 m3 p p1 p2 p3 Kr
def L.a1_J1_d : CutD := { base := 5, vecs := [], flds := [], keep := [4, 11, 14], out := [], rets := [10, 11], ovecs := [], oflds := [], rv := [(10, .mv L.T0)], rbase := 0 }
def L.a1_J1_ss : List Sh := [.ro (.pair (.int .i64) L.T1), .cl 1 0, .cl 4 0]
def L.a1_J1_os : List OSh := [.cells [.int .i64, .int .i64], .cells [.int .i64, .int .i64], .cells [.int .i64, .int .i64], .vec L.T0 true, .cells [.vec 3, .int .i64, .int .i64, .int .i64, .int .i64]]
def L.a1_J1_G (vs : List V) (st : List Ob) (K : Ex -> St) : Prop := L.a1_J1 (gR (.pair (.int .i64) L.T1) (gA vs 0)) (oX L.T0 (gD st 3)) (cI st 4 1) (cI st 4 2) (cI st 4 3) (cI st 4 4) (fun q0_ q1_ q2_ => K .ret (bld [10, 11] [.vec 0, .cl 1 0] 0 71) [.vec L.T0 0 q0_, .cells [.xi q1_, .xi q2_]])
def L.a1_J1_F (vs : List V) (st : List Ob) (K : Ex -> St) : Prop := fitF L.a1_J1_ss L.a1_J1_os vs st (L.a1_J1_G vs st K)
theorem L.a1_J1_eq (events1 : (List (Int × (Int × L.ya)))) (m0 m01 m1 m11 m2 m21 : Int) (m3 : (List ((List Int) × L.ya))) (p p1 p2 p3 : Int) (K : Ex -> St) : L.a1_J1_B events1 m3 p p1 p2 p3 (fun q0_ q1_ q2_ => K .ret (bld [10, 11] [.vec 0, .cl 1 0] 0 71) [.vec L.T0 0 q0_, .cells [.xi q1_, .xi q2_]]) = L.ex L.Γ_a1 L.Δ_a1 (.node (.node .leaf (.lift L.a1_L1_d 71 L.a1_L1_F)) .leaf) (sub [true, true, true, true, true] (codeOf Tryz.f26)) (bld L.a1_J1_d.keep [.ro (.pair (.int .i64) L.T1) events1, .cl 1 0, .cl 4 0] 0 71) [.cells [.xi m0, .xi m01], .cells [.xi m1, .xi m11], .cells [.xi m2, .xi m21], .vec L.T0 0 m3, .cells [.vec 3, .xi p, .xi p1, .xi p2, .xi p3]] (cutK L.a1_J1_d K) := by
 kernel_rfl
theorem L.a1_J1_ok (vs : List V) (st : List Ob) (K : Ex -> St) : Imp (L.a1_J1_G vs st K) (L.ex L.Γ_a1 L.Δ_a1 (.node (.node .leaf (.lift L.a1_L1_d 71 L.a1_L1_F)) .leaf) (sub [true, true, true, true, true] (codeOf Tryz.f26)) (bld L.a1_J1_d.keep (mkL L.a1_J1_ss 0 vs) 0 71) (mkOs L.a1_J1_os 0 st) (cutK L.a1_J1_d K)) :=
 Imp.of (Eq.trans (b := L.ex L.Γ_a1 L.Δ_a1 (.node (.node .leaf (.lift L.a1_L1_d 71 L.a1_L1_F)) .leaf) (sub [true, true, true, true, true] (codeOf Tryz.f26)) (bld L.a1_J1_d.keep [.ro (.pair (.int .i64) L.T1) (gR (.pair (.int .i64) L.T1) (gA vs 0)), .cl 1 0, .cl 4 0] 0 71) [.cells [.xi (cI st 0 0), .xi (cI st 0 1)], .cells [.xi (cI st 1 0), .xi (cI st 1 1)], .cells [.xi (cI st 2 0), .xi (cI st 2 1)], .vec L.T0 0 (oX L.T0 (gD st 3)), .cells [.vec 3, .xi (cI st 4 1), .xi (cI st 4 2), .xi (cI st 4 3), .xi (cI st 4 4)]] (cutK L.a1_J1_d K)) (by kernel_rfl) (Eq.symm (L.a1_J1_eq (gR (.pair (.int .i64) L.T1) (gA vs 0)) (cI st 0 0) (cI st 0 1) (cI st 1 0) (cI st 1 1) (cI st 2 0) (cI st 2 1) (oX L.T0 (gD st 3)) (cI st 4 1) (cI st 4 2) (cI st 4 3) (cI st 4 4) K))) fun h => (L.a1_J1.out h)
def L.a1_B (rings base base1 need perMille : Int) (events : (List (Int × (Int × L.ya)))) (K : Int -> Int -> (List ((List Int) × L.ya)) -> Prop) : Prop :=
 (bif (bif (decide (rings < 1)) then true else (decide (rings > 5))) then K 3 (-2) ([] : List ((List Int) × L.ya)) else L.a3 base base1 0 0 need perMille (fun r rCode rIndex => (bif (!((rCode == 0) && ((rIndex == 0) && true))) then K rCode (-3) ([] : List ((List Int) × L.ya)) else (bif (decide ((events.length : Int) > 40)) then K 2 (-1) ([] : List ((List Int) × L.ya)) else ((0 <= rings /\ rings <= rings /\ rings <= 1073741824) /\ L.a1_J1 events (List.replicate rings.toNat ((([] : List Int), (0, (0, 0))) : ((List Int) × L.ya))) base base1 need perMille (fun r1 m m1 => K m m1 r1)) /\ (0 <= rings /\ rings <= rings /\ rings <= 1073741824) /\ L.a1_J1 events (List.replicate rings.toNat ((([] : List Int), (0, (0, 0))) : ((List Int) × L.ya))) base base1 need perMille (fun r1 m m1 => K m m1 r1)))))
structure L.a1 (rings base base1 need perMille : Int) (events : (List (Int × (Int × L.ya)))) (K : Int -> Int -> (List ((List Int) × L.ya)) -> Prop) : Prop where
 out : L.a1_B rings base base1 need perMille events K
def L.a1_ss : List Sh := [.int .i64, .agg [.int .i64, .int .i64], .int .i64, .int .i64, .ro (.pair (.int .i64) L.T1)]
def L.a1_os : List OSh := []
def L.a1_G (vs : List V) (st : List Ob) (K : V -> List Ob -> Prop) : Prop := L.a1 (gI (gA vs 0)) (gI ((gC (gA vs 1)).getD 0 .any)) (gI ((gC (gA vs 1)).getD 1 .any)) (gI (gA vs 2)) (gI (gA vs 3)) (gR (.pair (.int .i64) L.T1) (gA vs 4)) (fun r0 r1 r2 => K (.tup [.vec 0, .agg [.xi r0, .xi r1]]) [.vec L.T0 0 r2])
def L.a1_S : SemO := fun args st K => argO L.a1_ss L.a1_os args st fun a s => L.a1_G a s K
theorem L.a1_eq (rings base base1 need perMille : Int) (events : (List (Int × (Int × L.ya)))) (K : V -> List Ob -> Prop) : runH L.pg L.Γ_a1 L.Δ_a1 (.node .leaf (.node .leaf (.node .leaf (.node .leaf (.cut .leaf L.a1_J1_d 71 L.a1_J1_F))))) (.tup [(.sl L.T0), (.agg [.any, .any])]) [] Tryz.f26 false 0 [.xi rings, .agg [.xi base, .xi base1], .xi need, .xi perMille, .ro (.pair (.int .i64) L.T1) events] [] K = L.a1_B rings base base1 need perMille events (fun r0 r1 r2 => K (.tup [.vec 0, .agg [.xi r0, .xi r1]]) [.vec L.T0 0 r2]) := by
 kernel_rfl
theorem L.a1_imp (vs : List V) (st : List Ob) (K : V -> List Ob -> Prop) : Imp (L.a1_G vs st K) (runH L.pg L.Γ_a1 L.Δ_a1 (.node .leaf (.node .leaf (.node .leaf (.node .leaf (.cut .leaf L.a1_J1_d 71 L.a1_J1_F))))) (.tup [(.sl L.T0), (.agg [.any, .any])]) [] Tryz.f26 false 0 (mkL L.a1_ss 0 vs) (mkOs L.a1_os 0 st) K) :=
 Imp.of (Eq.trans (b := runH L.pg L.Γ_a1 L.Δ_a1 (.node .leaf (.node .leaf (.node .leaf (.node .leaf (.cut .leaf L.a1_J1_d 71 L.a1_J1_F))))) (.tup [(.sl L.T0), (.agg [.any, .any])]) [] Tryz.f26 false 0 [.xi (gI (gA vs 0)), .agg [.xi (gI ((gC (gA vs 1)).getD 0 .any)), .xi (gI ((gC (gA vs 1)).getD 1 .any))], .xi (gI (gA vs 2)), .xi (gI (gA vs 3)), .ro (.pair (.int .i64) L.T1) (gR (.pair (.int .i64) L.T1) (gA vs 4))] [] K) (by kernel_rfl) (L.a1_eq (gI (gA vs 0)) (gI ((gC (gA vs 1)).getD 0 .any)) (gI ((gC (gA vs 1)).getD 1 .any)) (gI (gA vs 2)) (gI (gA vs 3)) (gR (.pair (.int .i64) L.T1) (gA vs 4)) K)) fun h => (L.a1.out h)
theorem L.a1_ok : SoundO L.pg 26 L.a1_S :=
 fnO_ok (sem := runH L.pg L.Γ_a1 L.Δ_a1 (.node .leaf (.node .leaf (.node .leaf (.node .leaf (.cut .leaf L.a1_J1_d 71 L.a1_J1_F))))) (.tup [(.sl L.T0), (.agg [.any, .any])]) [] Tryz.f26 false 0) (ss := L.a1_ss) (os := L.a1_os) (G := L.a1_G) (runH_ok L.Γ_a1_ok L.Δ_a1_ok Tryz.func26 (ann := (.node .leaf (.node .leaf (.node .leaf (.node .leaf (.cut .leaf L.a1_J1_d 71 L.a1_J1_F)))))) rfl ⟨(annOk_leaf _), ⟨(annOk_leaf _), ⟨(annOk_leaf _), ⟨(annOk_leaf _), (cut_ok (ay := (.node (.node .leaf (.lift L.a1_L1_d 71 L.a1_L1_F)) .leaf)) (ss := L.a1_J1_ss) (os := L.a1_J1_os) (G := L.a1_J1_G) rfl (annOk_leaf _) (Nat.le_of_ble_eq_true rfl) (Nat.le_of_ble_eq_true rfl) ⟨⟨(annOk_leaf _), L.a1_L1_ok⟩, (annOk_leaf _)⟩ L.a1_J1_ok)⟩⟩⟩⟩) L.a1_imp
def L.Γ_a6 : Ctx := L.Γ_a1
theorem L.Γ_a6_ok : SoundG L.pg L.Γ_a6 := L.Γ_a1_ok
def L.Δ_a6 : CtxO := ctxE L.Δ_a1 26 [.any, .any, .any, .any, .ro (.pair (.int .i64) L.T1)] L.a1_ss L.a1_os L.a1_G
theorem L.Δ_a6_ok : SoundGO L.pg L.Δ_a6 := ctxE_ok L.Δ_a1_ok L.a1_ok
def L.a6_L1_b (v33 : Int) (m2 : (List ((List Int) × L.ya))) (v34 : Int) (out : (List Int)) (self : Int -> (List Int) -> Prop) (Kx0 : (List Int) -> Prop) : Prop :=
 (bif (decide (v34 < v33)) then (inB v34 m2.length) /\ (bif (bif (((m2.getD v34.toNat ([], (0, (0, 0)))).2.1) == 0) then (decide ((((m2.getD v34.toNat ([], (0, (0, 0)))).1).length : Int) > 0)) else false) then (inB (i64 ((((m2.getD v34.toNat ([], (0, (0, 0)))).1).length : Int) - 1)) ((m2.getD v34.toNat ([], (0, (0, 0)))).1).length) /\ (fits (out.length + ([(((m2.getD v34.toNat ([], (0, (0, 0)))).1).getD ((i64 ((((m2.getD v34.toNat ([], (0, (0, 0)))).1).length : Int) - 1)).toNat) 0)] : List Int).length)) /\ self (i64 (v34 + 1)) (out ++ ([(((m2.getD v34.toNat ([], (0, (0, 0)))).1).getD ((i64 ((((m2.getD v34.toNat ([], (0, (0, 0)))).1).length : Int) - 1)).toNat) 0)] : List Int)) else (fits (out.length + ([(m2.getD v34.toNat ([], (0, (0, 0)))).2.1] : List Int).length)) /\ self (i64 (v34 + 1)) (out ++ ([(m2.getD v34.toNat ([], (0, (0, 0)))).2.1] : List Int))) else Kx0 out)
def L.a6_L1_R (v33 : Int) (m2 : (List ((List Int) × L.ya))) : Nat -> Int -> (List Int) -> ((List Int) -> Prop) -> Prop
 | 0, _, _, _ => False
 | fu + 1, v34, out, Kx0 => L.a6_L1_b v33 m2 v34 out (fun v34 out => L.a6_L1_R v33 m2 fu v34 out Kx0) Kx0
structure L.a6_L1 (v33 : Int) (m2 : (List ((List Int) × L.ya))) (v34 : Int) (out : (List Int)) (Kx0 : (List Int) -> Prop) : Prop where
 out : ∃ fu, L.a6_L1_R v33 m2 fu v34 out Kx0
def L.a6_L1_d : LoopD := { base := 4, vecs := [(14, .sl (.int .i64))], flds := [], keep := [11, 14, 32, 33, 34], out := [11, 14], rets := [10, 11], rv := [], rbase := 0 }
def L.a6_L1_ss : List Sh := [.cl 1 0, .vec 4, .vec 2, .int .i64, .int .i64]
def L.a6_L1_os : List OSh := [.cells [.int .i64, .int .i64], .cells [.int .i64, .int .i64], .vec L.T0 true, .cells [.int .i64, .int .i64], .vec (.int .i64) true]
def L.a6_L1_G (vs : List V) (st : List Ob) (K : Ex -> St) : Prop := L.a6_L1 (gI (gA vs 3)) (oX L.T0 (gD st 2)) (gI (gA vs 4)) (oX (.int .i64) (gD st 4)) (fun q0_ => K (.exit 0) (bld [11, 14] [.cl 1 0, .vec 4] 0 62) [.cells [.xi (cI st 0 0), .xi (cI st 0 1)], .cells [.xi (cI st 1 0), .xi (cI st 1 1)], .vec L.T0 0 (oX L.T0 (gD st 2)), .cells [.xi (cI st 3 0), .xi (cI st 3 1)], .vec (.int .i64) 0 q0_])
def L.a6_L1_F (vs : List V) (st : List Ob) (K : Ex -> St) : Prop := fitF L.a6_L1_ss L.a6_L1_os vs st (L.a6_L1_G vs st K)
theorem L.a6_L1_eq (v33 m0 m01 m1 m11 : Int) (m2 : (List ((List Int) × L.ya))) (m3 m31 : Int) (K : Ex -> St) : ∀ (fu : Nat) (v34 : Int) (out : (List Int)), L.a6_L1_R v33 m2 fu v34 out (fun q0_ => K (.exit 0) (bld [11, 14] [.cl 1 0, .vec 4] 0 62) [.cells [.xi m0, .xi m01], .cells [.xi m1, .xi m11], .vec L.T0 0 m2, .cells [.xi m3, .xi m31], .vec (.int .i64) 0 q0_]) = iterL (stepL (L.ex L.Γ_a6 L.Δ_a6 .leaf (sub [true, true, true, true, false, true, false, false] (codeOf Tryz.f9))) 4 L.a6_L1_d K) fu (bld L.a6_L1_d.keep [.cl 1 0, .vec 4, .vec 2, .xi v33, .xi v34] 0 62) [.cells [.xi m0, .xi m01], .cells [.xi m1, .xi m11], .vec L.T0 0 m2, .cells [.xi m3, .xi m31], .vec (.int .i64) 0 out] := by
 intro fu
 induction fu with
 | zero => intros; rfl
 | succ fu ih =>
  intro v34 out
  have e : (fun v34 out => L.a6_L1_R v33 m2 fu v34 out (fun q0_ => K (.exit 0) (bld [11, 14] [.cl 1 0, .vec 4] 0 62) [.cells [.xi m0, .xi m01], .cells [.xi m1, .xi m11], .vec L.T0 0 m2, .cells [.xi m3, .xi m31], .vec (.int .i64) 0 q0_])) = fun v34 out => iterL (stepL (L.ex L.Γ_a6 L.Δ_a6 .leaf (sub [true, true, true, true, false, true, false, false] (codeOf Tryz.f9))) 4 L.a6_L1_d K) fu (bld L.a6_L1_d.keep [.cl 1 0, .vec 4, .vec 2, .xi v33, .xi v34] 0 62) [.cells [.xi m0, .xi m01], .cells [.xi m1, .xi m11], .vec L.T0 0 m2, .cells [.xi m3, .xi m31], .vec (.int .i64) 0 out] := by
   funext v34 out; exact ih v34 out
  show L.a6_L1_b v33 m2 v34 out (fun v34 out => L.a6_L1_R v33 m2 fu v34 out (fun q0_ => K (.exit 0) (bld [11, 14] [.cl 1 0, .vec 4] 0 62) [.cells [.xi m0, .xi m01], .cells [.xi m1, .xi m11], .vec L.T0 0 m2, .cells [.xi m3, .xi m31], .vec (.int .i64) 0 q0_])) (fun q0_ => K (.exit 0) (bld [11, 14] [.cl 1 0, .vec 4] 0 62) [.cells [.xi m0, .xi m01], .cells [.xi m1, .xi m11], .vec L.T0 0 m2, .cells [.xi m3, .xi m31], .vec (.int .i64) 0 q0_]) = _
  rw [e]
  kernel_rfl
theorem L.a6_L1_imp (vs : List V) (st : List Ob) (K : Ex -> St) (h : L.a6_L1_G vs st K) : ∃ fu, iterL (stepL (L.ex L.Γ_a6 L.Δ_a6 .leaf (sub [true, true, true, true, false, true, false, false] (codeOf Tryz.f9))) 4 L.a6_L1_d K) fu (bld L.a6_L1_d.keep (mkL L.a6_L1_ss 0 vs) 0 62) (mkOs L.a6_L1_os 0 st) :=
 exMap (fun fu h => @Eq.mp _ _ (Eq.trans (L.a6_L1_eq (gI (gA vs 3)) (cI st 0 0) (cI st 0 1) (cI st 1 0) (cI st 1 1) (oX L.T0 (gD st 2)) (cI st 3 0) (cI st 3 1) K fu (gI (gA vs 4)) (oX (.int .i64) (gD st 4))) (by kernel_rfl)) h) (L.a6_L1.out h)
theorem L.a6_L1_ok : AnnOk L.pg (CC L.pg L.Γ_a6 L.Δ_a6) (drawD L.pg L.Γ_a6 L.Δ_a6) 0 (.lift L.a6_L1_d 62 L.a6_L1_F) (.loop (sub [true, true, true, true, false, true, false, false] (codeOf Tryz.f9))) :=
 lift_ok (an := .leaf) (ss := L.a6_L1_ss) (os := L.a6_L1_os) (G := L.a6_L1_G) rfl (Nat.le_of_ble_eq_true rfl) (annOk_leaf _) (L.a6_L1_imp)
def L.a6_B (rings base_Good base_Bad need perMille : Int) (events : (List (Int × (Int × L.ya)))) (K : (List Int) -> Int -> Int -> Prop) : Prop :=
 L.a1 rings base_Good base_Bad need perMille events (fun r r1 r2 => (bif (!((r == 0) && ((r1 == 0) && true))) then K ([] : List Int) r r1 else L.a6_L1 (r2.length : Int) r2 0 ([] : List Int) (fun out => K out 0 0)))
structure L.a6 (rings base_Good base_Bad need perMille : Int) (events : (List (Int × (Int × L.ya)))) (K : (List Int) -> Int -> Int -> Prop) : Prop where
 out : L.a6_B rings base_Good base_Bad need perMille events K
def L.a6_ss : List Sh := [.int .i64, .agg [.int .i64, .int .i64], .int .i64, .int .i64, .ro (.pair (.int .i64) L.T1)]
def L.a6_G (vs : List V) (K : V -> List Ob -> Prop) : Prop := L.a6 (gI (gA vs 0)) (gI ((gC (gA vs 1)).getD 0 .any)) (gI ((gC (gA vs 1)).getD 1 .any)) (gI (gA vs 2)) (gI (gA vs 3)) (gR (.pair (.int .i64) L.T1) (gA vs 4)) (fun r0 r1 r2 => K (.tup [.vec 0, .agg [.xi r1, .xi r2]]) [.vec (.int .i64) 0 r0])
def L.a6_S : SemF := fun args K => argF L.a6_ss args fun a => L.a6_G a K
noncomputable abbrev L.a6_N : SemF := run L.pg L.Γ_a6 L.Δ_a6 (.node .leaf (.node .leaf (.node .leaf (.node .leaf (.node (.node .leaf (.lift L.a6_L1_d 62 L.a6_L1_F)) .leaf))))) (.tup [.sl (.int .i64), .any]) Tryz.f9
theorem L.a6_eq (rings base_Good base_Bad need perMille : Int) (events : (List (Int × (Int × L.ya)))) (K : V -> List Ob -> Prop) : L.a6_N [.xi rings, .agg [.xi base_Good, .xi base_Bad], .xi need, .xi perMille, .ro (.pair (.int .i64) L.T1) events] K = L.a6_B rings base_Good base_Bad need perMille events (fun r0 r1 r2 => K (.tup [.vec 0, .agg [.xi r1, .xi r2]]) [.vec (.int .i64) 0 r0]) := by
 kernel_rfl
theorem L.a6_imp (vs : List V) (K : V -> List Ob -> Prop) : Imp (L.a6_G vs K) (L.a6_N (mkL L.a6_ss 0 vs) K) :=
 Imp.of (Eq.trans (b := L.a6_N [.xi (gI (gA vs 0)), .agg [.xi (gI ((gC (gA vs 1)).getD 0 .any)), .xi (gI ((gC (gA vs 1)).getD 1 .any))], .xi (gI (gA vs 2)), .xi (gI (gA vs 3)), .ro (.pair (.int .i64) L.T1) (gR (.pair (.int .i64) L.T1) (gA vs 4))] K) (by kernel_rfl) (L.a6_eq (gI (gA vs 0)) (gI ((gC (gA vs 1)).getD 0 .any)) (gI ((gC (gA vs 1)).getD 1 .any)) (gI (gA vs 2)) (gI (gA vs 3)) (gR (.pair (.int .i64) L.T1) (gA vs 4)) K)) fun h => (L.a6.out h)
theorem L.a6_ok : SoundFn L.pg 9 L.a6_S :=
 fn_ok (sem := L.a6_N) (ss := L.a6_ss) (G := L.a6_G) (run_ok L.Γ_a6_ok L.Δ_a6_ok Tryz.func9 (ann := (.node .leaf (.node .leaf (.node .leaf (.node .leaf (.node (.node .leaf (.lift L.a6_L1_d 62 L.a6_L1_F)) .leaf)))))) ⟨(annOk_leaf _), ⟨(annOk_leaf _), ⟨(annOk_leaf _), ⟨(annOk_leaf _), ⟨⟨(annOk_leaf _), L.a6_L1_ok⟩, (annOk_leaf _)⟩⟩⟩⟩⟩) L.a6_imp
def L.Γ_e7 : Ctx := ctxC L.Γ_a6 9 L.a6_S
theorem L.Γ_e7_ok : SoundG L.pg L.Γ_e7 := ctxC_ok L.Γ_a6_ok L.a6_ok
def L.Δ_e7 : CtxO := L.Δ_a6
theorem L.Δ_e7_ok : SoundGO L.pg L.Δ_e7 := L.Δ_a6_ok
def L.e7_B (n : Int) (K : Bool -> Prop) : Prop :=
 K (bif (decide (n < 0)) then true else (decide (n > 1000000000)))
structure L.e7 (n : Int) (K : Bool -> Prop) : Prop where
 out : L.e7_B n K
def L.e7_ss : List Sh := [.int .i64]
def L.e7_G (vs : List V) (K : V -> List Ob -> Prop) : Prop := L.e7 (gI (gA vs 0)) (fun r0 => K (.x (.bool r0)) [])
def L.e7_S : SemF := fun args K => argF L.e7_ss args fun a => L.e7_G a K
noncomputable abbrev L.e7_N : SemF := run L.pg L.Γ_e7 L.Δ_e7 .leaf .any Tryz.f60
theorem L.e7_eq (n : Int) (K : V -> List Ob -> Prop) : L.e7_N [.xi n] K = L.e7_B n (fun r0 => K (.x (.bool r0)) []) := by
 kernel_rfl
theorem L.e7_imp (vs : List V) (K : V -> List Ob -> Prop) : Imp (L.e7_G vs K) (L.e7_N (mkL L.e7_ss 0 vs) K) :=
 Imp.of (Eq.trans (b := L.e7_N [.xi (gI (gA vs 0))] K) (by kernel_rfl) (L.e7_eq (gI (gA vs 0)) K)) fun h => (L.e7.out h)
theorem L.e7_ok : SoundFn L.pg 60 L.e7_S :=
 fn_ok (sem := L.e7_N) (ss := L.e7_ss) (G := L.e7_G) (run_ok L.Γ_e7_ok L.Δ_e7_ok Tryz.func60 (ann := .leaf) (annOk_leaf _)) L.e7_imp
def L.Γ_b0 : Ctx := ctxC L.Γ_e7 60 L.e7_S
theorem L.Γ_b0_ok : SoundG L.pg L.Γ_b0 := ctxC_ok L.Γ_e7_ok L.e7_ok
def L.Δ_b0 : CtxO := L.Δ_e7
theorem L.Δ_b0_ok : SoundGO L.pg L.Δ_b0 := L.Δ_e7_ok
def L.b0_L1_b (s1 : (List Int)) (v7 v8 : Int) (self : Int -> Prop) (Kx0 : Prop) (Kr : Int -> Prop) : Prop :=
 (bif (decide (v8 < v7)) then (inB v8 s1.length) /\ L.e7 (s1.getD v8.toNat 0) (fun r => (bif r then Kr v8 else self (i64 (v8 + 1)))) else Kx0)
def L.b0_L1_R (s1 : (List Int)) (v7 : Int) : Nat -> Int -> (Prop) -> (Int -> Prop) -> Prop
 | 0, _, _, _ => False
 | fu + 1, v8, Kx0, Kr => L.b0_L1_b s1 v7 v8 (fun v8 => L.b0_L1_R s1 v7 fu v8 Kx0 Kr) Kx0 Kr
structure L.b0_L1 (s1 : (List Int)) (v7 v8 : Int) (Kx0 : Prop) (Kr : Int -> Prop) : Prop where
 out : ∃ fu, L.b0_L1_R s1 v7 fu v8 Kx0 Kr
def L.b0_L1_d : LoopD := { base := 0, vecs := [], flds := [], keep := [0, 1, 7, 8], out := [], rets := [4], rv := [], rbase := 0 }
def L.b0_L1_ss : List Sh := [.ro (.int .i64), .fn 60 [] [], .int .i64, .int .i64]
def L.b0_L1_os : List OSh := []
def L.b0_L1_G (vs : List V) (st : List Ob) (K : Ex -> St) : Prop := L.b0_L1 (gR (.int .i64) (gA vs 0)) (gI (gA vs 2)) (gI (gA vs 3)) (K (.exit 0) (bld [] [] 0 19) []) (fun q0_ => K .ret (bld [4] [.xi q0_] 0 19) [])
def L.b0_L1_F (vs : List V) (st : List Ob) (K : Ex -> St) : Prop := fitF L.b0_L1_ss L.b0_L1_os vs st (L.b0_L1_G vs st K)
theorem L.b0_L1_eq (s1 : (List Int)) (v7 : Int) (K : Ex -> St) : ∀ (fu : Nat) (v8 : Int), L.b0_L1_R s1 v7 fu v8 (K (.exit 0) (bld [] [] 0 19) []) (fun q0_ => K .ret (bld [4] [.xi q0_] 0 19) []) = iterL (stepL (L.ex L.Γ_b0 L.Δ_b0 .leaf (sub [true, false, true, false, false] (codeOf Tryz.f86))) 0 L.b0_L1_d K) fu (bld L.b0_L1_d.keep [.ro (.int .i64) s1, .fn (.func 60) [] [], .xi v7, .xi v8] 0 19) [] := by
 intro fu
 induction fu with
 | zero => intros; rfl
 | succ fu ih =>
  intro v8
  have e : (fun v8 => L.b0_L1_R s1 v7 fu v8 (K (.exit 0) (bld [] [] 0 19) []) (fun q0_ => K .ret (bld [4] [.xi q0_] 0 19) [])) = fun v8 => iterL (stepL (L.ex L.Γ_b0 L.Δ_b0 .leaf (sub [true, false, true, false, false] (codeOf Tryz.f86))) 0 L.b0_L1_d K) fu (bld L.b0_L1_d.keep [.ro (.int .i64) s1, .fn (.func 60) [] [], .xi v7, .xi v8] 0 19) [] := by
   funext v8; exact ih v8
  show L.b0_L1_b s1 v7 v8 (fun v8 => L.b0_L1_R s1 v7 fu v8 (K (.exit 0) (bld [] [] 0 19) []) (fun q0_ => K .ret (bld [4] [.xi q0_] 0 19) [])) (K (.exit 0) (bld [] [] 0 19) []) (fun q0_ => K .ret (bld [4] [.xi q0_] 0 19) []) = _
  rw [e]
  kernel_rfl
theorem L.b0_L1_imp (vs : List V) (st : List Ob) (K : Ex -> St) (h : L.b0_L1_G vs st K) : ∃ fu, iterL (stepL (L.ex L.Γ_b0 L.Δ_b0 .leaf (sub [true, false, true, false, false] (codeOf Tryz.f86))) 0 L.b0_L1_d K) fu (bld L.b0_L1_d.keep (mkL L.b0_L1_ss 0 vs) 0 19) (mkOs L.b0_L1_os 0 st) :=
 exMap (fun fu h => @Eq.mp _ _ (Eq.trans (L.b0_L1_eq (gR (.int .i64) (gA vs 0)) (gI (gA vs 2)) K fu (gI (gA vs 3))) (by kernel_rfl)) h) (L.b0_L1.out h)
theorem L.b0_L1_ok : AnnOk L.pg (CC L.pg L.Γ_b0 L.Δ_b0) (drawD L.pg L.Γ_b0 L.Δ_b0) 0 (.lift L.b0_L1_d 19 L.b0_L1_F) (.loop (sub [true, false, true, false, false] (codeOf Tryz.f86))) :=
 lift_ok (an := .leaf) (ss := L.b0_L1_ss) (os := L.b0_L1_os) (G := L.b0_L1_G) rfl (Nat.le_of_ble_eq_true rfl) (annOk_leaf _) (L.b0_L1_imp)
def L.b0_B (s : (List Int)) (K : Int -> Prop) : Prop :=
 L.b0_L1 s (s.length : Int) 0 (K (-1)) (fun r => K r)
structure L.b0 (s : (List Int)) (K : Int -> Prop) : Prop where
 out : L.b0_B s K
def L.b0_ss : List Sh := [.ro (.int .i64), .fn 60 [] []]
def L.b0_G (vs : List V) (K : V -> List Ob -> Prop) : Prop := L.b0 (gR (.int .i64) (gA vs 0)) (fun r0 => K (.xi r0) [])
def L.b0_S : SemF := fun args K => argF L.b0_ss args fun a => L.b0_G a K
noncomputable abbrev L.b0_N : SemF := run L.pg L.Γ_b0 L.Δ_b0 (.node .leaf (.node (.node .leaf (.lift L.b0_L1_d 19 L.b0_L1_F)) .leaf)) .any Tryz.f86
theorem L.b0_eq (s : (List Int)) (K : V -> List Ob -> Prop) : L.b0_N [.ro (.int .i64) s, .fn (.func 60) [] []] K = L.b0_B s (fun r0 => K (.xi r0) []) := by
 kernel_rfl
theorem L.b0_imp (vs : List V) (K : V -> List Ob -> Prop) : Imp (L.b0_G vs K) (L.b0_N (mkL L.b0_ss 0 vs) K) :=
 Imp.of (Eq.trans (b := L.b0_N [.ro (.int .i64) (gR (.int .i64) (gA vs 0)), .fn (.func 60) [] []] K) (by kernel_rfl) (L.b0_eq (gR (.int .i64) (gA vs 0)) K)) fun h => (L.b0.out h)
theorem L.b0_ok : SoundFn L.pg 86 L.b0_S :=
 fn_ok (sem := L.b0_N) (ss := L.b0_ss) (G := L.b0_G) (run_ok L.Γ_b0_ok L.Δ_b0_ok Tryz.func86 (ann := (.node .leaf (.node (.node .leaf (.lift L.b0_L1_d 19 L.b0_L1_F)) .leaf))) ⟨(annOk_leaf _), ⟨⟨(annOk_leaf _), L.b0_L1_ok⟩, (annOk_leaf _)⟩⟩) L.b0_imp
def L.Γ_e6 : Ctx := ctxA L.Γ_b0 86 L.b0_ss L.b0_G
theorem L.Γ_e6_ok : SoundG L.pg L.Γ_e6 := ctxA_ok L.Γ_b0_ok L.b0_ok
def L.Δ_e6 : CtxO := L.Δ_b0
theorem L.Δ_e6_ok : SoundGO L.pg L.Δ_e6 := L.Δ_b0_ok
def L.e6_B (s : (List Int)) (K : Bool -> Prop) : Prop :=
 L.b0 s (fun r => K (decide (r ≥ 0)))
structure L.e6 (s : (List Int)) (K : Bool -> Prop) : Prop where
 out : L.e6_B s K
def L.e6_ss : List Sh := [.ro (.int .i64), .fn 60 [] []]
def L.e6_G (vs : List V) (K : V -> List Ob -> Prop) : Prop := L.e6 (gR (.int .i64) (gA vs 0)) (fun r0 => K (.x (.bool r0)) [])
def L.e6_S : SemF := fun args K => argF L.e6_ss args fun a => L.e6_G a K
noncomputable abbrev L.e6_N : SemF := run L.pg L.Γ_e6 L.Δ_e6 .leaf .any Tryz.f59
theorem L.e6_eq (s : (List Int)) (K : V -> List Ob -> Prop) : L.e6_N [.ro (.int .i64) s, .fn (.func 60) [] []] K = L.e6_B s (fun r0 => K (.x (.bool r0)) []) := by
 kernel_rfl
theorem L.e6_imp (vs : List V) (K : V -> List Ob -> Prop) : Imp (L.e6_G vs K) (L.e6_N (mkL L.e6_ss 0 vs) K) :=
 Imp.of (Eq.trans (b := L.e6_N [.ro (.int .i64) (gR (.int .i64) (gA vs 0)), .fn (.func 60) [] []] K) (by kernel_rfl) (L.e6_eq (gR (.int .i64) (gA vs 0)) K)) fun h => (L.e6.out h)
theorem L.e6_ok : SoundFn L.pg 59 L.e6_S :=
 fn_ok (sem := L.e6_N) (ss := L.e6_ss) (G := L.e6_G) (run_ok L.Γ_e6_ok L.Δ_e6_ok Tryz.func59 (ann := .leaf) (annOk_leaf _)) L.e6_imp
def L.Γ_b9 : Ctx := ctxA L.Γ_e6 59 L.e6_ss L.e6_G
theorem L.Γ_b9_ok : SoundG L.pg L.Γ_b9 := ctxA_ok L.Γ_e6_ok L.e6_ok
def L.Δ_b9 : CtxO := L.Δ_e6
theorem L.Δ_b9_ok : SoundGO L.pg L.Δ_b9 := L.Δ_e6_ok
def L.b9_B (task : (List Int)) (K : Int -> Prop) : Prop :=
 (bif (decide ((task.length : Int) > 40)) then K 2 else L.e6 task (fun r => (bif r then K 3 else K 0)))
structure L.b9 (task : (List Int)) (K : Int -> Prop) : Prop where
 out : L.b9_B task K
def L.b9_ss : List Sh := [.ro (.int .i64)]
def L.b9_G (vs : List V) (K : V -> List Ob -> Prop) : Prop := L.b9 (gR (.int .i64) (gA vs 0)) (fun r0 => K (.xi r0) [])
def L.b9_S : SemF := fun args K => argF L.b9_ss args fun a => L.b9_G a K
noncomputable abbrev L.b9_N : SemF := run L.pg L.Γ_b9 L.Δ_b9 .leaf .any Tryz.f41
theorem L.b9_eq (task : (List Int)) (K : V -> List Ob -> Prop) : L.b9_N [.ro (.int .i64) task] K = L.b9_B task (fun r0 => K (.xi r0) []) := by
 kernel_rfl
theorem L.b9_imp (vs : List V) (K : V -> List Ob -> Prop) : Imp (L.b9_G vs K) (L.b9_N (mkL L.b9_ss 0 vs) K) :=
 Imp.of (Eq.trans (b := L.b9_N [.ro (.int .i64) (gR (.int .i64) (gA vs 0))] K) (by kernel_rfl) (L.b9_eq (gR (.int .i64) (gA vs 0)) K)) fun h => (L.b9.out h)
theorem L.b9_ok : SoundFn L.pg 41 L.b9_S :=
 fn_ok (sem := L.b9_N) (ss := L.b9_ss) (G := L.b9_G) (run_ok L.Γ_b9_ok L.Δ_b9_ok Tryz.func41 (ann := .leaf) (annOk_leaf _)) L.b9_imp
def L.Γ_b1 : Ctx := ctxC L.Γ_b9 41 L.b9_S
theorem L.Γ_b1_ok : SoundG L.pg L.Γ_b1 := ctxC_ok L.Γ_b9_ok L.b9_ok
def L.Δ_b1 : CtxO := L.Δ_b9
theorem L.Δ_b1_ok : SoundGO L.pg L.Δ_b1 := L.Δ_b9_ok
def L.b1_L1_b (v19 : (List (List Int))) (v20 v21 : Int) (self : Int -> Prop) (Kx0 : Prop) (Kr : Int -> Int -> Prop) : Prop :=
 (bif (decide (v21 < v20)) then (inB v21 v19.length) /\ L.b9 (v19.getD v21.toNat []) (fun r => (bif (r != 0) then Kr r v21 else self (i64 (v21 + 1)))) else Kx0)
def L.b1_L1_R (v19 : (List (List Int))) (v20 : Int) : Nat -> Int -> (Prop) -> (Int -> Int -> Prop) -> Prop
 | 0, _, _, _ => False
 | fu + 1, v21, Kx0, Kr => L.b1_L1_b v19 v20 v21 (fun v21 => L.b1_L1_R v19 v20 fu v21 Kx0 Kr) Kx0 Kr
structure L.b1_L1 (v19 : (List (List Int))) (v20 v21 : Int) (Kx0 : Prop) (Kr : Int -> Int -> Prop) : Prop where
 out : ∃ fu, L.b1_L1_R v19 v20 fu v21 Kx0 Kr
def L.b1_L1_d : LoopD := { base := 1, vecs := [], flds := [], keep := [4, 19, 20, 21], out := [4], rets := [4], rv := [], rbase := 0 }
def L.b1_L1_ss : List Sh := [.cl 0 0, .ro (.slice (.int .i64)), .int .i64, .int .i64]
def L.b1_L1_os : List OSh := [.cells [.int .i64, .int .i64]]
def L.b1_L1_G (vs : List V) (st : List Ob) (K : Ex -> St) : Prop := L.b1_L1 (gR (.slice (.int .i64)) (gA vs 1)) (gI (gA vs 2)) (gI (gA vs 3)) (K (.exit 0) (bld [4] [.cl 0 0] 0 35) [.cells [.xi (cI st 0 0), .xi (cI st 0 1)]]) (fun q0_ q1_ => K .ret (bld [4] [.cl 0 0] 0 35) [.cells [.xi q0_, .xi q1_]])
def L.b1_L1_F (vs : List V) (st : List Ob) (K : Ex -> St) : Prop := fitF L.b1_L1_ss L.b1_L1_os vs st (L.b1_L1_G vs st K)
theorem L.b1_L1_eq (v19 : (List (List Int))) (v20 m0 m01 : Int) (K : Ex -> St) : ∀ (fu : Nat) (v21 : Int), L.b1_L1_R v19 v20 fu v21 (K (.exit 0) (bld [4] [.cl 0 0] 0 35) [.cells [.xi m0, .xi m01]]) (fun q0_ q1_ => K .ret (bld [4] [.cl 0 0] 0 35) [.cells [.xi q0_, .xi q1_]]) = iterL (stepL (L.ex L.Γ_b1 L.Δ_b1 .leaf (sub [true, true, true, false, true, false, false] (codeOf Tryz.f27))) 1 L.b1_L1_d K) fu (bld L.b1_L1_d.keep [.cl 0 0, .ro (.slice (.int .i64)) v19, .xi v20, .xi v21] 0 35) [.cells [.xi m0, .xi m01]] := by
 intro fu
 induction fu with
 | zero => intros; rfl
 | succ fu ih =>
  intro v21
  have e : (fun v21 => L.b1_L1_R v19 v20 fu v21 (K (.exit 0) (bld [4] [.cl 0 0] 0 35) [.cells [.xi m0, .xi m01]]) (fun q0_ q1_ => K .ret (bld [4] [.cl 0 0] 0 35) [.cells [.xi q0_, .xi q1_]])) = fun v21 => iterL (stepL (L.ex L.Γ_b1 L.Δ_b1 .leaf (sub [true, true, true, false, true, false, false] (codeOf Tryz.f27))) 1 L.b1_L1_d K) fu (bld L.b1_L1_d.keep [.cl 0 0, .ro (.slice (.int .i64)) v19, .xi v20, .xi v21] 0 35) [.cells [.xi m0, .xi m01]] := by
   funext v21; exact ih v21
  show L.b1_L1_b v19 v20 v21 (fun v21 => L.b1_L1_R v19 v20 fu v21 (K (.exit 0) (bld [4] [.cl 0 0] 0 35) [.cells [.xi m0, .xi m01]]) (fun q0_ q1_ => K .ret (bld [4] [.cl 0 0] 0 35) [.cells [.xi q0_, .xi q1_]])) (K (.exit 0) (bld [4] [.cl 0 0] 0 35) [.cells [.xi m0, .xi m01]]) (fun q0_ q1_ => K .ret (bld [4] [.cl 0 0] 0 35) [.cells [.xi q0_, .xi q1_]]) = _
  rw [e]
  kernel_rfl
theorem L.b1_L1_imp (vs : List V) (st : List Ob) (K : Ex -> St) (h : L.b1_L1_G vs st K) : ∃ fu, iterL (stepL (L.ex L.Γ_b1 L.Δ_b1 .leaf (sub [true, true, true, false, true, false, false] (codeOf Tryz.f27))) 1 L.b1_L1_d K) fu (bld L.b1_L1_d.keep (mkL L.b1_L1_ss 0 vs) 0 35) (mkOs L.b1_L1_os 0 st) :=
 exMap (fun fu h => @Eq.mp _ _ (Eq.trans (L.b1_L1_eq (gR (.slice (.int .i64)) (gA vs 1)) (gI (gA vs 2)) (cI st 0 0) (cI st 0 1) K fu (gI (gA vs 3))) (by kernel_rfl)) h) (L.b1_L1.out h)
theorem L.b1_L1_ok : AnnOk L.pg (CC L.pg L.Γ_b1 L.Δ_b1) (drawD L.pg L.Γ_b1 L.Δ_b1) 0 (.lift L.b1_L1_d 35 L.b1_L1_F) (.loop (sub [true, true, true, false, true, false, false] (codeOf Tryz.f27))) :=
 lift_ok (an := .leaf) (ss := L.b1_L1_ss) (os := L.b1_L1_os) (G := L.b1_L1_G) rfl (Nat.le_of_ble_eq_true rfl) (annOk_leaf _) (L.b1_L1_imp)
def L.b1_B (tasks : (List (List Int))) (workers : Int) (K : Int -> Int -> Prop) : Prop :=
 (bif (bif (decide (workers < 1)) then true else (decide (workers > 8))) then K 3 (-2) else (bif (decide ((tasks.length : Int) > 24)) then K 2 (-1) else L.b1_L1 tasks (tasks.length : Int) 0 (K 0 0) (fun m m1 => K m m1)))
structure L.b1 (tasks : (List (List Int))) (workers : Int) (K : Int -> Int -> Prop) : Prop where
 out : L.b1_B tasks workers K
def L.b1_ss : List Sh := [.ro (.slice (.int .i64)), .int .i64]
def L.b1_G (vs : List V) (K : V -> List Ob -> Prop) : Prop := L.b1 (gR (.slice (.int .i64)) (gA vs 0)) (gI (gA vs 1)) (fun r0 r1 => K (.agg [.xi r0, .xi r1]) [])
def L.b1_S : SemF := fun args K => argF L.b1_ss args fun a => L.b1_G a K
noncomputable abbrev L.b1_N : SemF := run L.pg L.Γ_b1 L.Δ_b1 (.node .leaf (.node .leaf (.node .leaf (.node (.node .leaf (.lift L.b1_L1_d 35 L.b1_L1_F)) .leaf)))) .any Tryz.f27
theorem L.b1_eq (tasks : (List (List Int))) (workers : Int) (K : V -> List Ob -> Prop) : L.b1_N [.ro (.slice (.int .i64)) tasks, .xi workers] K = L.b1_B tasks workers (fun r0 r1 => K (.agg [.xi r0, .xi r1]) []) := by
 kernel_rfl
theorem L.b1_imp (vs : List V) (K : V -> List Ob -> Prop) : Imp (L.b1_G vs K) (L.b1_N (mkL L.b1_ss 0 vs) K) :=
 Imp.of (Eq.trans (b := L.b1_N [.ro (.slice (.int .i64)) (gR (.slice (.int .i64)) (gA vs 0)), .xi (gI (gA vs 1))] K) (by kernel_rfl) (L.b1_eq (gR (.slice (.int .i64)) (gA vs 0)) (gI (gA vs 1)) K)) fun h => (L.b1.out h)
theorem L.b1_ok : SoundFn L.pg 27 L.b1_S :=
 fn_ok (sem := L.b1_N) (ss := L.b1_ss) (G := L.b1_G) (run_ok L.Γ_b1_ok L.Δ_b1_ok Tryz.func27 (ann := (.node .leaf (.node .leaf (.node .leaf (.node (.node .leaf (.lift L.b1_L1_d 35 L.b1_L1_F)) .leaf))))) ⟨(annOk_leaf _), ⟨(annOk_leaf _), ⟨(annOk_leaf _), ⟨⟨(annOk_leaf _), L.b1_L1_ok⟩, (annOk_leaf _)⟩⟩⟩⟩) L.b1_imp
def L.Γ_f0 : Ctx := ctxC L.Γ_b1 27 L.b1_S
theorem L.Γ_f0_ok : SoundG L.pg L.Γ_f0 := ctxC_ok L.Γ_b1_ok L.b1_ok
def L.Δ_f0 : CtxO := L.Δ_b1
theorem L.Δ_f0_ok : SoundGO L.pg L.Δ_f0 := L.Δ_b1_ok
def L.f0_B (tasks : (List (List Int))) (workers : Int) (K : (List Int) -> Prop) : Prop :=
 Pl.C tasks workers /\ K (Pl.R tasks workers)
structure L.f0 (tasks : (List (List Int))) (workers : Int) (K : (List Int) -> Prop) : Prop where
 out : L.f0_B tasks workers K
def L.f0_ss : List Sh := [.ro (.slice (.int .i64)), .int .i64]
def L.f0_G (vs : List V) (K : V -> List Ob -> Prop) : Prop := L.f0 (gR (.slice (.int .i64)) (gA vs 0)) (gI (gA vs 1)) (fun r0 => K (.vec 0) [.vec (.int .i64) 0 r0])
def L.f0_S : SemF := fun args K => argF L.f0_ss args fun a => L.f0_G a K
theorem L.f0_ok : SoundFn L.pg 28 L.f0_S := SoundFn.of_imp Pl.ok fun args K h => argF_mono (fun a h => h.out) h
def L.Γ_d9 : Ctx := ctxC L.Γ_f0 28 L.f0_S
theorem L.Γ_d9_ok : SoundG L.pg L.Γ_d9 := ctxC_ok L.Γ_f0_ok L.f0_ok
def L.Δ_d9 : CtxO := L.Δ_f0
theorem L.Δ_d9_ok : SoundGO L.pg L.Δ_d9 := L.Δ_f0_ok
def L.d9_B (tasks : (List (List Int))) (workers : Int) (K : (List Int) -> Int -> Int -> Prop) : Prop :=
 L.b1 tasks workers (fun rCode rIndex => (bif (!((rCode == 0) && ((rIndex == 0) && true))) then K ([] : List Int) rCode rIndex else L.f0 tasks workers (fun r => K r 0 0)))
structure L.d9 (tasks : (List (List Int))) (workers : Int) (K : (List Int) -> Int -> Int -> Prop) : Prop where
 out : L.d9_B tasks workers K
def L.d9_ss : List Sh := [.ro (.slice (.int .i64)), .int .i64]
def L.d9_G (vs : List V) (K : V -> List Ob -> Prop) : Prop := L.d9 (gR (.slice (.int .i64)) (gA vs 0)) (gI (gA vs 1)) (fun r0 r1 r2 => K (.tup [.vec 0, .agg [.xi r1, .xi r2]]) [.vec (.int .i64) 0 r0])
def L.d9_S : SemF := fun args K => argF L.d9_ss args fun a => L.d9_G a K
noncomputable abbrev L.d9_N : SemF := run L.pg L.Γ_d9 L.Δ_d9 .leaf (.tup [.sl (.int .i64), .any]) Tryz.f10
theorem L.d9_eq (tasks : (List (List Int))) (workers : Int) (K : V -> List Ob -> Prop) : L.d9_N [.ro (.slice (.int .i64)) tasks, .xi workers] K = L.d9_B tasks workers (fun r0 r1 r2 => K (.tup [.vec 0, .agg [.xi r1, .xi r2]]) [.vec (.int .i64) 0 r0]) := by
 kernel_rfl
theorem L.d9_imp (vs : List V) (K : V -> List Ob -> Prop) : Imp (L.d9_G vs K) (L.d9_N (mkL L.d9_ss 0 vs) K) :=
 Imp.of (Eq.trans (b := L.d9_N [.ro (.slice (.int .i64)) (gR (.slice (.int .i64)) (gA vs 0)), .xi (gI (gA vs 1))] K) (by kernel_rfl) (L.d9_eq (gR (.slice (.int .i64)) (gA vs 0)) (gI (gA vs 1)) K)) fun h => (L.d9.out h)
theorem L.d9_ok : SoundFn L.pg 10 L.d9_S :=
 fn_ok (sem := L.d9_N) (ss := L.d9_ss) (G := L.d9_G) (run_ok L.Γ_d9_ok L.Δ_d9_ok Tryz.func10 (ann := .leaf) (annOk_leaf _)) L.d9_imp
def L.Γ_d5 : Ctx := ctxC L.Γ_d9 10 L.d9_S
theorem L.Γ_d5_ok : SoundG L.pg L.Γ_d5 := ctxC_ok L.Γ_d9_ok L.d9_ok
def L.Δ_d5 : CtxO := L.Δ_d9
theorem L.Δ_d5_ok : SoundGO L.pg L.Δ_d5 := L.Δ_d9_ok
def L.d5_B (r_Time r_User r_Action r_Chain : Int) (K : Bool -> Prop) : Prop :=
 K (bif (bif (bif (bif (bif (decide (r_Time ≥ 0)) then (decide (r_Time <= 100000)) else false) then (decide (r_User ≥ 0)) else false) then (decide (r_User <= 7)) else false) then (decide (r_Action ≥ 0)) else false) then (decide (r_Action <= 1000000000)) else false)
structure L.d5 (r_Time r_User r_Action r_Chain : Int) (K : Bool -> Prop) : Prop where
 out : L.d5_B r_Time r_User r_Action r_Chain K
def L.d5_ss : List Sh := [.agg [.int .i64, .int .i64, .int .i64, .int .i64]]
def L.d5_G (vs : List V) (K : V -> List Ob -> Prop) : Prop := L.d5 (gI ((gC (gA vs 0)).getD 0 .any)) (gI ((gC (gA vs 0)).getD 1 .any)) (gI ((gC (gA vs 0)).getD 2 .any)) (gI ((gC (gA vs 0)).getD 3 .any)) (fun r0 => K (.x (.bool r0)) [])
def L.d5_S : SemF := fun args K => argF L.d5_ss args fun a => L.d5_G a K
noncomputable abbrev L.d5_N : SemF := run L.pg L.Γ_d5 L.Δ_d5 .leaf .any Tryz.f29
theorem L.d5_eq (r_Time r_User r_Action r_Chain : Int) (K : V -> List Ob -> Prop) : L.d5_N [.agg [.xi r_Time, .xi r_User, .xi r_Action, .xi r_Chain]] K = L.d5_B r_Time r_User r_Action r_Chain (fun r0 => K (.x (.bool r0)) []) := by
 kernel_rfl
theorem L.d5_imp (vs : List V) (K : V -> List Ob -> Prop) : Imp (L.d5_G vs K) (L.d5_N (mkL L.d5_ss 0 vs) K) :=
 Imp.of (Eq.trans (b := L.d5_N [.agg [.xi (gI ((gC (gA vs 0)).getD 0 .any)), .xi (gI ((gC (gA vs 0)).getD 1 .any)), .xi (gI ((gC (gA vs 0)).getD 2 .any)), .xi (gI ((gC (gA vs 0)).getD 3 .any))]] K) (by kernel_rfl) (L.d5_eq (gI ((gC (gA vs 0)).getD 0 .any)) (gI ((gC (gA vs 0)).getD 1 .any)) (gI ((gC (gA vs 0)).getD 2 .any)) (gI ((gC (gA vs 0)).getD 3 .any)) K)) fun h => (L.d5.out h)
theorem L.d5_ok : SoundFn L.pg 29 L.d5_S :=
 fn_ok (sem := L.d5_N) (ss := L.d5_ss) (G := L.d5_G) (run_ok L.Γ_d5_ok L.Δ_d5_ok Tryz.func29 (ann := .leaf) (annOk_leaf _)) L.d5_imp
def L.Γ_e0 : Ctx := ctxC L.Γ_d5 29 L.d5_S
theorem L.Γ_e0_ok : SoundG L.pg L.Γ_e0 := ctxC_ok L.Γ_d5_ok L.d5_ok
def L.Δ_e0 : CtxO := L.Δ_d5
theorem L.Δ_e0_ok : SoundGO L.pg L.Δ_e0 := L.Δ_d5_ok
def L.e0_B (n : Int) (K : Bool -> Prop) : Prop :=
 K (bif (decide (n ≥ 0)) then (decide (n < 2305843009213693951)) else false)
structure L.e0 (n : Int) (K : Bool -> Prop) : Prop where
 out : L.e0_B n K
def L.e0_ss : List Sh := [.int .i64]
def L.e0_G (vs : List V) (K : V -> List Ob -> Prop) : Prop := L.e0 (gI (gA vs 0)) (fun r0 => K (.x (.bool r0)) [])
def L.e0_S : SemF := fun args K => argF L.e0_ss args fun a => L.e0_G a K
noncomputable abbrev L.e0_N : SemF := run L.pg L.Γ_e0 L.Δ_e0 .leaf .any Tryz.f32
theorem L.e0_eq (n : Int) (K : V -> List Ob -> Prop) : L.e0_N [.xi n] K = L.e0_B n (fun r0 => K (.x (.bool r0)) []) := by
 kernel_rfl
theorem L.e0_imp (vs : List V) (K : V -> List Ob -> Prop) : Imp (L.e0_G vs K) (L.e0_N (mkL L.e0_ss 0 vs) K) :=
 Imp.of (Eq.trans (b := L.e0_N [.xi (gI (gA vs 0))] K) (by kernel_rfl) (L.e0_eq (gI (gA vs 0)) K)) fun h => (L.e0.out h)
theorem L.e0_ok : SoundFn L.pg 32 L.e0_S :=
 fn_ok (sem := L.e0_N) (ss := L.e0_ss) (G := L.e0_G) (run_ok L.Γ_e0_ok L.Δ_e0_ok Tryz.func32 (ann := .leaf) (annOk_leaf _)) L.e0_imp
def L.Γ_e5 : Ctx := ctxC L.Γ_e0 32 L.e0_S
theorem L.Γ_e5_ok : SoundG L.pg L.Γ_e5 := ctxC_ok L.Γ_e0_ok L.e0_ok
def L.Δ_e5 : CtxO := L.Δ_e0
theorem L.Δ_e5_ok : SoundGO L.pg L.Δ_e5 := L.Δ_e0_ok
def L.e5_B (a : Int) (K : Bool -> Prop) : Prop :=
 K (bif (decide (a ≥ 0)) then (decide (a < 2305843009213693951)) else false)
structure L.e5 (a : Int) (K : Bool -> Prop) : Prop where
 out : L.e5_B a K
def L.e5_ss : List Sh := [.int .i64]
def L.e5_G (vs : List V) (K : V -> List Ob -> Prop) : Prop := L.e5 (gI (gA vs 0)) (fun r0 => K (.x (.bool r0)) [])
def L.e5_S : SemF := fun args K => argF L.e5_ss args fun a => L.e5_G a K
noncomputable abbrev L.e5_N : SemF := run L.pg L.Γ_e5 L.Δ_e5 .leaf .any Tryz.f78
theorem L.e5_eq (a : Int) (K : V -> List Ob -> Prop) : L.e5_N [.xi a] K = L.e5_B a (fun r0 => K (.x (.bool r0)) []) := by
 kernel_rfl
theorem L.e5_imp (vs : List V) (K : V -> List Ob -> Prop) : Imp (L.e5_G vs K) (L.e5_N (mkL L.e5_ss 0 vs) K) :=
 Imp.of (Eq.trans (b := L.e5_N [.xi (gI (gA vs 0))] K) (by kernel_rfl) (L.e5_eq (gI (gA vs 0)) K)) fun h => (L.e5.out h)
theorem L.e5_ok : SoundFn L.pg 78 L.e5_S :=
 fn_ok (sem := L.e5_N) (ss := L.e5_ss) (G := L.e5_G) (run_ok L.Γ_e5_ok L.Δ_e5_ok Tryz.func78 (ann := .leaf) (annOk_leaf _)) L.e5_imp
def L.Γ_b6 : Ctx := ctxC L.Γ_e5 78 L.e5_S
theorem L.Γ_b6_ok : SoundG L.pg L.Γ_b6 := ctxC_ok L.Γ_e5_ok L.e5_ok
def L.Δ_b6 : CtxO := L.Δ_e5
theorem L.Δ_b6_ok : SoundGO L.pg L.Δ_b6 := L.Δ_e5_ok
def L.b6_L1_b (a1 b1 out : Int) (self : Int -> Int -> Int -> Prop) (Kx0 : Int -> Prop) : Prop :=
 (bif (decide (b1 > 0)) then (bif ((i64 ((BitVec.ofInt 64 b1 &&& BitVec.ofInt 64 1).toNat)) == 1) then ((2305843009213693951 : Int) ≠ 0) /\ ((2305843009213693951 : Int) ≠ 0) /\ (0 <= (1 : Int)) /\ self ((i64 ((2 : Int) * a1)).tmod 2305843009213693951) (b1.fdiv (2 ^ (min (1 : Int).toNat 64))) ((i64 (out + a1)).tmod 2305843009213693951) else ((2305843009213693951 : Int) ≠ 0) /\ (0 <= (1 : Int)) /\ self ((i64 ((2 : Int) * a1)).tmod 2305843009213693951) (b1.fdiv (2 ^ (min (1 : Int).toNat 64))) out) else Kx0 out)
def L.b6_L1_R  : Nat -> Int -> Int -> Int -> (Int -> Prop) -> Prop
 | 0, _, _, _, _ => False
 | fu + 1, a1, b1, out, Kx0 => L.b6_L1_b a1 b1 out (fun a1 b1 out => L.b6_L1_R fu a1 b1 out Kx0) Kx0
structure L.b6_L1 (a1 b1 out : Int) (Kx0 : Int -> Prop) : Prop where
 out : ∃ fu, L.b6_L1_R fu a1 b1 out Kx0
def L.b6_L1_d : LoopD := { base := 0, vecs := [], flds := [], keep := [0, 1, 5], out := [5], rets := [4], rv := [], rbase := 0 }
def L.b6_L1_ss : List Sh := [.int .i64, .int .i64, .int .i64]
def L.b6_L1_os : List OSh := []
def L.b6_L1_G (vs : List V) (st : List Ob) (K : Ex -> St) : Prop := L.b6_L1 (gI (gA vs 0)) (gI (gA vs 1)) (gI (gA vs 2)) (fun q0_ => K (.exit 0) (bld [5] [.xi q0_] 0 21) [])
def L.b6_L1_F (vs : List V) (st : List Ob) (K : Ex -> St) : Prop := fitF L.b6_L1_ss L.b6_L1_os vs st (L.b6_L1_G vs st K)
theorem L.b6_L1_eq  (K : Ex -> St) : ∀ (fu : Nat) (a1 : Int) (b1 : Int) (out : Int), L.b6_L1_R fu a1 b1 out (fun q0_ => K (.exit 0) (bld [5] [.xi q0_] 0 21) []) = iterL (stepL (L.ex L.Γ_b6 L.Δ_b6 .leaf (sub [true, true, false, false, false] (codeOf Tryz.f114))) 0 L.b6_L1_d K) fu (bld L.b6_L1_d.keep [.xi a1, .xi b1, .xi out] 0 21) [] := by
 intro fu
 induction fu with
 | zero => intros; rfl
 | succ fu ih =>
  intro a1 b1 out
  have e : (fun a1 b1 out => L.b6_L1_R fu a1 b1 out (fun q0_ => K (.exit 0) (bld [5] [.xi q0_] 0 21) [])) = fun a1 b1 out => iterL (stepL (L.ex L.Γ_b6 L.Δ_b6 .leaf (sub [true, true, false, false, false] (codeOf Tryz.f114))) 0 L.b6_L1_d K) fu (bld L.b6_L1_d.keep [.xi a1, .xi b1, .xi out] 0 21) [] := by
   funext a1 b1 out; exact ih a1 b1 out
  show L.b6_L1_b a1 b1 out (fun a1 b1 out => L.b6_L1_R fu a1 b1 out (fun q0_ => K (.exit 0) (bld [5] [.xi q0_] 0 21) [])) (fun q0_ => K (.exit 0) (bld [5] [.xi q0_] 0 21) []) = _
  rw [e]
  kernel_rfl
theorem L.b6_L1_imp (vs : List V) (st : List Ob) (K : Ex -> St) (h : L.b6_L1_G vs st K) : ∃ fu, iterL (stepL (L.ex L.Γ_b6 L.Δ_b6 .leaf (sub [true, true, false, false, false] (codeOf Tryz.f114))) 0 L.b6_L1_d K) fu (bld L.b6_L1_d.keep (mkL L.b6_L1_ss 0 vs) 0 21) (mkOs L.b6_L1_os 0 st) :=
 exMap (fun fu h => @Eq.mp _ _ (Eq.trans (L.b6_L1_eq  K fu (gI (gA vs 0)) (gI (gA vs 1)) (gI (gA vs 2))) (by kernel_rfl)) h) (L.b6_L1.out h)
theorem L.b6_L1_ok : AnnOk L.pg (CC L.pg L.Γ_b6 L.Δ_b6) (drawD L.pg L.Γ_b6 L.Δ_b6) 0 (.lift L.b6_L1_d 21 L.b6_L1_F) (.loop (sub [true, true, false, false, false] (codeOf Tryz.f114))) :=
 lift_ok (an := .leaf) (ss := L.b6_L1_ss) (os := L.b6_L1_os) (G := L.b6_L1_G) rfl (Nat.le_of_ble_eq_true rfl) (annOk_leaf _) (L.b6_L1_imp)
def L.b6_B (a b : Int) (K : Int -> Prop) : Prop :=
 L.b6_L1 a b 0 (fun out => K out)
structure L.b6 (a b : Int) (K : Int -> Prop) : Prop where
 out : L.b6_B a b K
def L.b6_ss : List Sh := [.int .i64, .int .i64]
def L.b6_G (vs : List V) (K : V -> List Ob -> Prop) : Prop := L.b6 (gI (gA vs 0)) (gI (gA vs 1)) (fun r0 => K (.xi r0) [])
def L.b6_S : SemF := fun args K => argF L.b6_ss args fun a => L.b6_G a K
noncomputable abbrev L.b6_N : SemF := run L.pg L.Γ_b6 L.Δ_b6 (.node .leaf (.node .leaf (.node (.lift L.b6_L1_d 21 L.b6_L1_F) .leaf))) .any Tryz.f114
theorem L.b6_eq (a b : Int) (K : V -> List Ob -> Prop) : L.b6_N [.xi a, .xi b] K = L.b6_B a b (fun r0 => K (.xi r0) []) := by
 kernel_rfl
theorem L.b6_imp (vs : List V) (K : V -> List Ob -> Prop) : Imp (L.b6_G vs K) (L.b6_N (mkL L.b6_ss 0 vs) K) :=
 Imp.of (Eq.trans (b := L.b6_N [.xi (gI (gA vs 0)), .xi (gI (gA vs 1))] K) (by kernel_rfl) (L.b6_eq (gI (gA vs 0)) (gI (gA vs 1)) K)) fun h => (L.b6.out h)
theorem L.b6_ok : SoundFn L.pg 114 L.b6_S :=
 fn_ok (sem := L.b6_N) (ss := L.b6_ss) (G := L.b6_G) (run_ok L.Γ_b6_ok L.Δ_b6_ok Tryz.func114 (ann := (.node .leaf (.node .leaf (.node (.lift L.b6_L1_d 21 L.b6_L1_F) .leaf)))) ⟨(annOk_leaf _), ⟨(annOk_leaf _), ⟨L.b6_L1_ok, (annOk_leaf _)⟩⟩⟩) L.b6_imp
def L.Γ_d6 : Ctx := ctxC L.Γ_b6 114 L.b6_S
theorem L.Γ_d6_ok : SoundG L.pg L.Γ_d6 := ctxC_ok L.Γ_b6_ok L.b6_ok
def L.Δ_d6 : CtxO := L.Δ_b6
theorem L.Δ_d6_ok : SoundGO L.pg L.Δ_d6 := L.Δ_b6_ok
def L.d6_B (s_0 s_1 factor : Int) (K : Int -> Prop) : Prop :=
 (inB 0 2) /\ (((0 : Int).toNat) < 2) /\ L.b6 (([s_0, s_1] : List Int).getD ((0 : Int).toNat) 0) factor (fun r => (inB 1 2) /\ (((1 : Int).toNat) < 2) /\ ((2305843009213693951 : Int) ≠ 0) /\ K ((i64 (r + (([s_0, s_1] : List Int).getD ((1 : Int).toNat) 0))).tmod 2305843009213693951))
structure L.d6 (s_0 s_1 factor : Int) (K : Int -> Prop) : Prop where
 out : L.d6_B s_0 s_1 factor K
def L.d6_ss : List Sh := [.agg [.int .i64, .int .i64], .int .i64]
def L.d6_G (vs : List V) (K : V -> List Ob -> Prop) : Prop := L.d6 (gI ((gC (gA vs 0)).getD 0 .any)) (gI ((gC (gA vs 0)).getD 1 .any)) (gI (gA vs 1)) (fun r0 => K (.xi r0) [])
def L.d6_S : SemF := fun args K => argF L.d6_ss args fun a => L.d6_G a K
noncomputable abbrev L.d6_N : SemF := run L.pg L.Γ_d6 L.Δ_d6 .leaf .any Tryz.f101
theorem L.d6_eq (s_0 s_1 factor : Int) (K : V -> List Ob -> Prop) : L.d6_N [.agg [.xi s_0, .xi s_1], .xi factor] K = L.d6_B s_0 s_1 factor (fun r0 => K (.xi r0) []) := by
 kernel_rfl
theorem L.d6_imp (vs : List V) (K : V -> List Ob -> Prop) : Imp (L.d6_G vs K) (L.d6_N (mkL L.d6_ss 0 vs) K) :=
 Imp.of (Eq.trans (b := L.d6_N [.agg [.xi (gI ((gC (gA vs 0)).getD 0 .any)), .xi (gI ((gC (gA vs 0)).getD 1 .any))], .xi (gI (gA vs 1))] K) (by kernel_rfl) (L.d6_eq (gI ((gC (gA vs 0)).getD 0 .any)) (gI ((gC (gA vs 0)).getD 1 .any)) (gI (gA vs 1)) K)) fun h => (L.d6.out h)
theorem L.d6_ok : SoundFn L.pg 101 L.d6_S :=
 fn_ok (sem := L.d6_N) (ss := L.d6_ss) (G := L.d6_G) (run_ok L.Γ_d6_ok L.Δ_d6_ok Tryz.func101 (ann := .leaf) (annOk_leaf _)) L.d6_imp
def L.Γ_e3 : Ctx := ctxC L.Γ_d6 101 L.d6_S
theorem L.Γ_e3_ok : SoundG L.pg L.Γ_e3 := ctxC_ok L.Γ_d6_ok L.d6_ok
def L.Δ_e3 : CtxO := L.Δ_d6
theorem L.Δ_e3_ok : SoundGO L.pg L.Δ_e3 := L.Δ_d6_ok
def L.e3_B (a b : Int) (K : Int -> Prop) : Prop :=
 L.d6 b 7 31 (fun r => L.d6 a r 1000003 (fun r1 => K r1))
structure L.e3 (a b : Int) (K : Int -> Prop) : Prop where
 out : L.e3_B a b K
def L.e3_ss : List Sh := [.int .i64, .int .i64]
def L.e3_G (vs : List V) (K : V -> List Ob -> Prop) : Prop := L.e3 (gI (gA vs 0)) (gI (gA vs 1)) (fun r0 => K (.xi r0) [])
def L.e3_S : SemF := fun args K => argF L.e3_ss args fun a => L.e3_G a K
noncomputable abbrev L.e3_N : SemF := run L.pg L.Γ_e3 L.Δ_e3 .leaf .any Tryz.f79
theorem L.e3_eq (a b : Int) (K : V -> List Ob -> Prop) : L.e3_N [.xi a, .xi b] K = L.e3_B a b (fun r0 => K (.xi r0) []) := by
 kernel_rfl
theorem L.e3_imp (vs : List V) (K : V -> List Ob -> Prop) : Imp (L.e3_G vs K) (L.e3_N (mkL L.e3_ss 0 vs) K) :=
 Imp.of (Eq.trans (b := L.e3_N [.xi (gI (gA vs 0)), .xi (gI (gA vs 1))] K) (by kernel_rfl) (L.e3_eq (gI (gA vs 0)) (gI (gA vs 1)) K)) fun h => (L.e3.out h)
theorem L.e3_ok : SoundFn L.pg 79 L.e3_S :=
 fn_ok (sem := L.e3_N) (ss := L.e3_ss) (G := L.e3_G) (run_ok L.Γ_e3_ok L.Δ_e3_ok Tryz.func79 (ann := .leaf) (annOk_leaf _)) L.e3_imp
def L.Γ_a5 : Ctx := ctxC L.Γ_e3 79 L.e3_S
theorem L.Γ_a5_ok : SoundG L.pg L.Γ_a5 := ctxC_ok L.Γ_e3_ok L.e3_ok
def L.Δ_a5 : CtxO := L.Δ_e3
theorem L.Δ_a5_ok : SoundGO L.pg L.Δ_a5 := L.Δ_e3_ok
def L.a5_L1_b (v10 v101 v11 : Int) (self : Int -> Prop) (Kx0 : Prop) (Kr : Int -> Int -> Int -> Prop) : Prop :=
 (bif (decide (v11 < 2)) then (inB v11 2) /\ L.e5 (([v10, v101] : List Int).getD v11.toNat 0) (fun r => (bif (!r) then Kr 0 3 v11 else self (i64 (v11 + 1)))) else Kx0)
def L.a5_L1_R (v10 v101 : Int) : Nat -> Int -> (Prop) -> (Int -> Int -> Int -> Prop) -> Prop
 | 0, _, _, _ => False
 | fu + 1, v11, Kx0, Kr => L.a5_L1_b v10 v101 v11 (fun v11 => L.a5_L1_R v10 v101 fu v11 Kx0 Kr) Kx0 Kr
structure L.a5_L1 (v10 v101 v11 : Int) (Kx0 : Prop) (Kr : Int -> Int -> Int -> Prop) : Prop where
 out : ∃ fu, L.a5_L1_R v10 v101 fu v11 Kx0 Kr
def L.a5_L1_d : LoopD := { base := 1, vecs := [], flds := [], keep := [0, 1, 5, 10, 11], out := [0, 1, 5], rets := [4, 5], rv := [], rbase := 0 }
def L.a5_L1_ss : List Sh := [.int .i64, .int .i64, .cl 0 0, .agg [.int .i64, .int .i64], .int .i64]
def L.a5_L1_os : List OSh := [.cells [.int .i64, .int .i64]]
def L.a5_L1_G (vs : List V) (st : List Ob) (K : Ex -> St) : Prop := L.a5_L1 (gI ((gC (gA vs 3)).getD 0 .any)) (gI ((gC (gA vs 3)).getD 1 .any)) (gI (gA vs 4)) (K (.exit 0) (bld [0, 1, 5] [.xi (gI (gA vs 0)), .xi (gI (gA vs 1)), .cl 0 0] 0 25) [.cells [.xi (cI st 0 0), .xi (cI st 0 1)]]) (fun q0_ q1_ q2_ => K .ret (bld [4, 5] [.xi q0_, .cl 0 0] 0 25) [.cells [.xi q1_, .xi q2_]])
def L.a5_L1_F (vs : List V) (st : List Ob) (K : Ex -> St) : Prop := fitF L.a5_L1_ss L.a5_L1_os vs st (L.a5_L1_G vs st K)
theorem L.a5_L1_eq (a1 b1 v10 v101 m0 m01 : Int) (K : Ex -> St) : ∀ (fu : Nat) (v11 : Int), L.a5_L1_R v10 v101 fu v11 (K (.exit 0) (bld [0, 1, 5] [.xi a1, .xi b1, .cl 0 0] 0 25) [.cells [.xi m0, .xi m01]]) (fun q0_ q1_ q2_ => K .ret (bld [4, 5] [.xi q0_, .cl 0 0] 0 25) [.cells [.xi q1_, .xi q2_]]) = iterL (stepL (L.ex L.Γ_a5 L.Δ_a5 .leaf (sub [true, false, true, false, false] (codeOf Tryz.f50))) 1 L.a5_L1_d K) fu (bld L.a5_L1_d.keep [.xi a1, .xi b1, .cl 0 0, .agg [.xi v10, .xi v101], .xi v11] 0 25) [.cells [.xi m0, .xi m01]] := by
 intro fu
 induction fu with
 | zero => intros; rfl
 | succ fu ih =>
  intro v11
  have e : (fun v11 => L.a5_L1_R v10 v101 fu v11 (K (.exit 0) (bld [0, 1, 5] [.xi a1, .xi b1, .cl 0 0] 0 25) [.cells [.xi m0, .xi m01]]) (fun q0_ q1_ q2_ => K .ret (bld [4, 5] [.xi q0_, .cl 0 0] 0 25) [.cells [.xi q1_, .xi q2_]])) = fun v11 => iterL (stepL (L.ex L.Γ_a5 L.Δ_a5 .leaf (sub [true, false, true, false, false] (codeOf Tryz.f50))) 1 L.a5_L1_d K) fu (bld L.a5_L1_d.keep [.xi a1, .xi b1, .cl 0 0, .agg [.xi v10, .xi v101], .xi v11] 0 25) [.cells [.xi m0, .xi m01]] := by
   funext v11; exact ih v11
  show L.a5_L1_b v10 v101 v11 (fun v11 => L.a5_L1_R v10 v101 fu v11 (K (.exit 0) (bld [0, 1, 5] [.xi a1, .xi b1, .cl 0 0] 0 25) [.cells [.xi m0, .xi m01]]) (fun q0_ q1_ q2_ => K .ret (bld [4, 5] [.xi q0_, .cl 0 0] 0 25) [.cells [.xi q1_, .xi q2_]])) (K (.exit 0) (bld [0, 1, 5] [.xi a1, .xi b1, .cl 0 0] 0 25) [.cells [.xi m0, .xi m01]]) (fun q0_ q1_ q2_ => K .ret (bld [4, 5] [.xi q0_, .cl 0 0] 0 25) [.cells [.xi q1_, .xi q2_]]) = _
  rw [e]
  kernel_rfl
theorem L.a5_L1_imp (vs : List V) (st : List Ob) (K : Ex -> St) (h : L.a5_L1_G vs st K) : ∃ fu, iterL (stepL (L.ex L.Γ_a5 L.Δ_a5 .leaf (sub [true, false, true, false, false] (codeOf Tryz.f50))) 1 L.a5_L1_d K) fu (bld L.a5_L1_d.keep (mkL L.a5_L1_ss 0 vs) 0 25) (mkOs L.a5_L1_os 0 st) :=
 exMap (fun fu h => @Eq.mp _ _ (Eq.trans (L.a5_L1_eq (gI (gA vs 0)) (gI (gA vs 1)) (gI ((gC (gA vs 3)).getD 0 .any)) (gI ((gC (gA vs 3)).getD 1 .any)) (cI st 0 0) (cI st 0 1) K fu (gI (gA vs 4))) (by kernel_rfl)) h) (L.a5_L1.out h)
theorem L.a5_L1_ok : AnnOk L.pg (CC L.pg L.Γ_a5 L.Δ_a5) (drawD L.pg L.Γ_a5 L.Δ_a5) 0 (.lift L.a5_L1_d 25 L.a5_L1_F) (.loop (sub [true, false, true, false, false] (codeOf Tryz.f50))) :=
 lift_ok (an := .leaf) (ss := L.a5_L1_ss) (os := L.a5_L1_os) (G := L.a5_L1_G) rfl (Nat.le_of_ble_eq_true rfl) (annOk_leaf _) (L.a5_L1_imp)
def L.a5_B (a b : Int) (K : Int -> Int -> Int -> Prop) : Prop :=
 L.a5_L1 a b 0 (L.e3 a b (fun r => K r 0 0)) (fun r1 m m1 => K r1 m m1)
structure L.a5 (a b : Int) (K : Int -> Int -> Int -> Prop) : Prop where
 out : L.a5_B a b K
def L.a5_ss : List Sh := [.int .i64, .int .i64]
def L.a5_G (vs : List V) (K : V -> List Ob -> Prop) : Prop := L.a5 (gI (gA vs 0)) (gI (gA vs 1)) (fun r0 r1 r2 => K (.tup [.xi r0, .agg [.xi r1, .xi r2]]) [])
def L.a5_S : SemF := fun args K => argF L.a5_ss args fun a => L.a5_G a K
noncomputable abbrev L.a5_N : SemF := run L.pg L.Γ_a5 L.Δ_a5 (.node .leaf (.node (.node .leaf (.lift L.a5_L1_d 25 L.a5_L1_F)) .leaf)) .any Tryz.f50
theorem L.a5_eq (a b : Int) (K : V -> List Ob -> Prop) : L.a5_N [.xi a, .xi b] K = L.a5_B a b (fun r0 r1 r2 => K (.tup [.xi r0, .agg [.xi r1, .xi r2]]) []) := by
 kernel_rfl
theorem L.a5_imp (vs : List V) (K : V -> List Ob -> Prop) : Imp (L.a5_G vs K) (L.a5_N (mkL L.a5_ss 0 vs) K) :=
 Imp.of (Eq.trans (b := L.a5_N [.xi (gI (gA vs 0)), .xi (gI (gA vs 1))] K) (by kernel_rfl) (L.a5_eq (gI (gA vs 0)) (gI (gA vs 1)) K)) fun h => (L.a5.out h)
theorem L.a5_ok : SoundFn L.pg 50 L.a5_S :=
 fn_ok (sem := L.a5_N) (ss := L.a5_ss) (G := L.a5_G) (run_ok L.Γ_a5_ok L.Δ_a5_ok Tryz.func50 (ann := (.node .leaf (.node (.node .leaf (.lift L.a5_L1_d 25 L.a5_L1_F)) .leaf))) ⟨(annOk_leaf _), ⟨⟨(annOk_leaf _), L.a5_L1_ok⟩, (annOk_leaf _)⟩⟩) L.a5_imp
def L.Γ_d7 : Ctx := ctxC L.Γ_a5 50 L.a5_S
theorem L.Γ_d7_ok : SoundG L.pg L.Γ_d7 := ctxC_ok L.Γ_a5_ok L.a5_ok
def L.Δ_d7 : CtxO := L.Δ_a5
theorem L.Δ_d7_ok : SoundGO L.pg L.Δ_d7 := L.Δ_a5_ok
def L.d7_B (d r_Time r_User r_Action r_Chain : Int) (K : Int -> Prop) : Prop :=
 L.a5 d (i64 ((i64 ((8 : Int) * r_Time)) + r_User)) (fun r rCode rIndex => L.a5 r r_Action (fun r1 rCode1 rIndex1 => K r1))
structure L.d7 (d r_Time r_User r_Action r_Chain : Int) (K : Int -> Prop) : Prop where
 out : L.d7_B d r_Time r_User r_Action r_Chain K
def L.d7_ss : List Sh := [.int .i64, .agg [.int .i64, .int .i64, .int .i64, .int .i64]]
def L.d7_G (vs : List V) (K : V -> List Ob -> Prop) : Prop := L.d7 (gI (gA vs 0)) (gI ((gC (gA vs 1)).getD 0 .any)) (gI ((gC (gA vs 1)).getD 1 .any)) (gI ((gC (gA vs 1)).getD 2 .any)) (gI ((gC (gA vs 1)).getD 3 .any)) (fun r0 => K (.xi r0) [])
def L.d7_S : SemF := fun args K => argF L.d7_ss args fun a => L.d7_G a K
noncomputable abbrev L.d7_N : SemF := run L.pg L.Γ_d7 L.Δ_d7 .leaf .any Tryz.f30
theorem L.d7_eq (d r_Time r_User r_Action r_Chain : Int) (K : V -> List Ob -> Prop) : L.d7_N [.xi d, .agg [.xi r_Time, .xi r_User, .xi r_Action, .xi r_Chain]] K = L.d7_B d r_Time r_User r_Action r_Chain (fun r0 => K (.xi r0) []) := by
 kernel_rfl
theorem L.d7_imp (vs : List V) (K : V -> List Ob -> Prop) : Imp (L.d7_G vs K) (L.d7_N (mkL L.d7_ss 0 vs) K) :=
 Imp.of (Eq.trans (b := L.d7_N [.xi (gI (gA vs 0)), .agg [.xi (gI ((gC (gA vs 1)).getD 0 .any)), .xi (gI ((gC (gA vs 1)).getD 1 .any)), .xi (gI ((gC (gA vs 1)).getD 2 .any)), .xi (gI ((gC (gA vs 1)).getD 3 .any))]] K) (by kernel_rfl) (L.d7_eq (gI (gA vs 0)) (gI ((gC (gA vs 1)).getD 0 .any)) (gI ((gC (gA vs 1)).getD 1 .any)) (gI ((gC (gA vs 1)).getD 2 .any)) (gI ((gC (gA vs 1)).getD 3 .any)) K)) fun h => (L.d7.out h)
theorem L.d7_ok : SoundFn L.pg 30 L.d7_S :=
 fn_ok (sem := L.d7_N) (ss := L.d7_ss) (G := L.d7_G) (run_ok L.Γ_d7_ok L.Δ_d7_ok Tryz.func30 (ann := .leaf) (annOk_leaf _)) L.d7_imp
def L.Γ_a0 : Ctx := ctxC L.Γ_d7 30 L.d7_S
theorem L.Γ_a0_ok : SoundG L.pg L.Γ_a0 := ctxC_ok L.Γ_d7_ok L.d7_ok
def L.Δ_a0 : CtxO := L.Δ_d7
theorem L.Δ_a0_ok : SoundGO L.pg L.Δ_a0 := L.Δ_d7_ok
def L.a0_J3_B (i_ code r r1 r2 r3 : Int) (Kn : Int -> Int -> Int -> Int -> Prop) (Kr : Int -> Int -> Prop) : Prop :=
 (bif (code != 0) then Kr code i_ else Kn r r1 r2 r3)
structure L.a0_J3 (i_ code r r1 r2 r3 : Int) (Kn : Int -> Int -> Int -> Int -> Prop) (Kr : Int -> Int -> Prop) : Prop where
 out : L.a0_J3_B i_ code r r1 r2 r3 Kn Kr
def L.a0_J3_d : CutD := { base := 3, vecs := [], flds := [], keep := [2, 3, 4, 5, 6, 11, 12, 13], out := [2, 3, 11, 12, 13], rets := [2], ovecs := [], oflds := [], rv := [], rbase := 2 }
def L.a0_J3_ss : List Sh := [.cl 0 0, .cl 1 0, .int .i64, .cl 2 0, .int .i64, .ro L.T1, .int .i64, .int .i64]
def L.a0_J3_os : List OSh := [.cells [.int .i64, .int .i64], .cells [.int .i64, .int .i64, .int .i64, .int .i64], .cells [.int .i64, .int .i64, .int .i64, .int .i64]]
def L.a0_J3_G (vs : List V) (st : List Ob) (K : Ex -> St) : Prop := L.a0_J3 (gI (gA vs 2)) (gI (gA vs 4)) (cI st 2 0) (cI st 2 1) (cI st 2 2) (cI st 2 3) (fun q0_ q1_ q2_ q3_ => K .normal (bld [2, 3, 11, 12, 13] [.cl 0 0, .cl 1 0, .ro L.T1 (gR L.T1 (gA vs 5)), .xi (gI (gA vs 6)), .xi (gI (gA vs 7))] 0 50) [.cells [.xi (cI st 0 0), .xi (cI st 0 1)], .cells [.xi q0_, .xi q1_, .xi q2_, .xi q3_], .cells [.xi (cI st 2 0), .xi (cI st 2 1), .xi (cI st 2 2), .xi (cI st 2 3)]]) (fun q0_ q1_ => K .ret (bld [2] [.cl 0 0] 0 50) [.cells [.xi q0_, .xi q1_], .cells [.xi (cI st 1 0), .xi (cI st 1 1), .xi (cI st 1 2), .xi (cI st 1 3)]])
def L.a0_J3_F (vs : List V) (st : List Ob) (K : Ex -> St) : Prop := fitF L.a0_J3_ss L.a0_J3_os vs st (L.a0_J3_G vs st K)
theorem L.a0_J3_eq (i_ code : Int) (v111 : (List (Int × L.ya))) (v121 v131 m02 m03 last4 last5 last6 last7 r r1 r2 r3 : Int) (K : Ex -> St) : L.a0_J3_B i_ code r r1 r2 r3 (fun q0_ q1_ q2_ q3_ => K .normal (bld [2, 3, 11, 12, 13] [.cl 0 0, .cl 1 0, .ro L.T1 v111, .xi v121, .xi v131] 0 50) [.cells [.xi m02, .xi m03], .cells [.xi q0_, .xi q1_, .xi q2_, .xi q3_], .cells [.xi r, .xi r1, .xi r2, .xi r3]]) (fun q0_ q1_ => K .ret (bld [2] [.cl 0 0] 0 50) [.cells [.xi q0_, .xi q1_], .cells [.xi last4, .xi last5, .xi last6, .xi last7]]) = L.ex L.Γ_a0 L.Δ_a0 .leaf (sub [true, true, true, false, true, false, false, true, true, false, false, true, true, true] (codeOf Tryz.f13)) (bld L.a0_J3_d.keep [.cl 0 0, .cl 1 0, .xi i_, .cl 2 0, .xi code, .ro L.T1 v111, .xi v121, .xi v131] 0 50) [.cells [.xi m02, .xi m03], .cells [.xi last4, .xi last5, .xi last6, .xi last7], .cells [.xi r, .xi r1, .xi r2, .xi r3]] (cutK L.a0_J3_d K) := by
 kernel_rfl
theorem L.a0_J3_ok (vs : List V) (st : List Ob) (K : Ex -> St) : Imp (L.a0_J3_G vs st K) (L.ex L.Γ_a0 L.Δ_a0 .leaf (sub [true, true, true, false, true, false, false, true, true, false, false, true, true, true] (codeOf Tryz.f13)) (bld L.a0_J3_d.keep (mkL L.a0_J3_ss 0 vs) 0 50) (mkOs L.a0_J3_os 0 st) (cutK L.a0_J3_d K)) :=
 Imp.of (Eq.trans (b := L.ex L.Γ_a0 L.Δ_a0 .leaf (sub [true, true, true, false, true, false, false, true, true, false, false, true, true, true] (codeOf Tryz.f13)) (bld L.a0_J3_d.keep [.cl 0 0, .cl 1 0, .xi (gI (gA vs 2)), .cl 2 0, .xi (gI (gA vs 4)), .ro L.T1 (gR L.T1 (gA vs 5)), .xi (gI (gA vs 6)), .xi (gI (gA vs 7))] 0 50) [.cells [.xi (cI st 0 0), .xi (cI st 0 1)], .cells [.xi (cI st 1 0), .xi (cI st 1 1), .xi (cI st 1 2), .xi (cI st 1 3)], .cells [.xi (cI st 2 0), .xi (cI st 2 1), .xi (cI st 2 2), .xi (cI st 2 3)]] (cutK L.a0_J3_d K)) (by kernel_rfl) (Eq.symm (L.a0_J3_eq (gI (gA vs 2)) (gI (gA vs 4)) (gR L.T1 (gA vs 5)) (gI (gA vs 6)) (gI (gA vs 7)) (cI st 0 0) (cI st 0 1) (cI st 1 0) (cI st 1 1) (cI st 1 2) (cI st 1 3) (cI st 2 0) (cI st 2 1) (cI st 2 2) (cI st 2 3) K))) fun h => (L.a0_J3.out h)
def L.a0_J4_B (code : Int) (v18 : Bool) (last4 last7 r r1 r2 r3 : Int) (Kn : Int -> Prop) : Prop :=
 (bif v18 then Kn 3 else (bif (decide (r < last4)) then Kn 5 else L.d7 last7 r r1 r2 r3 (fun r4 => (bif (r3 != r4) then Kn 18 else Kn code))))
structure L.a0_J4 (code : Int) (v18 : Bool) (last4 last7 r r1 r2 r3 : Int) (Kn : Int -> Prop) : Prop where
 out : L.a0_J4_B code v18 last4 last7 r r1 r2 r3 Kn
def L.a0_J4_d : CutD := { base := 3, vecs := [], flds := [], keep := [2, 3, 4, 5, 6, 11, 12, 13, 18], out := [2, 3, 4, 5, 6, 11, 12, 13], rets := [2], ovecs := [], oflds := [], rv := [], rbase := 2 }
def L.a0_J4_ss : List Sh := [.cl 0 0, .cl 1 0, .int .i64, .cl 2 0, .int .i64, .ro L.T1, .int .i64, .int .i64, .bool]
def L.a0_J4_os : List OSh := [.cells [.int .i64, .int .i64], .cells [.int .i64, .int .i64, .int .i64, .int .i64], .cells [.int .i64, .int .i64, .int .i64, .int .i64]]
def L.a0_J4_G (vs : List V) (st : List Ob) (K : Ex -> St) : Prop := L.a0_J4 (gI (gA vs 4)) (gB (gA vs 8)) (cI st 1 0) (cI st 1 3) (cI st 2 0) (cI st 2 1) (cI st 2 2) (cI st 2 3) (fun q0_ => K .normal (bld [2, 3, 4, 5, 6, 11, 12, 13] [.cl 0 0, .cl 1 0, .xi (gI (gA vs 2)), .cl 2 0, .xi q0_, .ro L.T1 (gR L.T1 (gA vs 5)), .xi (gI (gA vs 6)), .xi (gI (gA vs 7))] 0 50) [.cells [.xi (cI st 0 0), .xi (cI st 0 1)], .cells [.xi (cI st 1 0), .xi (cI st 1 1), .xi (cI st 1 2), .xi (cI st 1 3)], .cells [.xi (cI st 2 0), .xi (cI st 2 1), .xi (cI st 2 2), .xi (cI st 2 3)]])
def L.a0_J4_F (vs : List V) (st : List Ob) (K : Ex -> St) : Prop := fitF L.a0_J4_ss L.a0_J4_os vs st (L.a0_J4_G vs st K)
theorem L.a0_J4_eq (i_ code : Int) (v111 : (List (Int × L.ya))) (v121 v131 : Int) (v18 : Bool) (m02 m03 last4 last5 last6 last7 r r1 r2 r3 : Int) (K : Ex -> St) : L.a0_J4_B code v18 last4 last7 r r1 r2 r3 (fun q0_ => K .normal (bld [2, 3, 4, 5, 6, 11, 12, 13] [.cl 0 0, .cl 1 0, .xi i_, .cl 2 0, .xi q0_, .ro L.T1 v111, .xi v121, .xi v131] 0 50) [.cells [.xi m02, .xi m03], .cells [.xi last4, .xi last5, .xi last6, .xi last7], .cells [.xi r, .xi r1, .xi r2, .xi r3]]) = L.ex L.Γ_a0 L.Δ_a0 .leaf (sub [true, true, true, false, true, false, false, true, true, false, false, true, true, false, false, true] (codeOf Tryz.f13)) (bld L.a0_J4_d.keep [.cl 0 0, .cl 1 0, .xi i_, .cl 2 0, .xi code, .ro L.T1 v111, .xi v121, .xi v131, .x (.bool v18)] 0 50) [.cells [.xi m02, .xi m03], .cells [.xi last4, .xi last5, .xi last6, .xi last7], .cells [.xi r, .xi r1, .xi r2, .xi r3]] (cutK L.a0_J4_d K) := by
 kernel_rfl
theorem L.a0_J4_ok (vs : List V) (st : List Ob) (K : Ex -> St) : Imp (L.a0_J4_G vs st K) (L.ex L.Γ_a0 L.Δ_a0 .leaf (sub [true, true, true, false, true, false, false, true, true, false, false, true, true, false, false, true] (codeOf Tryz.f13)) (bld L.a0_J4_d.keep (mkL L.a0_J4_ss 0 vs) 0 50) (mkOs L.a0_J4_os 0 st) (cutK L.a0_J4_d K)) :=
 Imp.of (Eq.trans (b := L.ex L.Γ_a0 L.Δ_a0 .leaf (sub [true, true, true, false, true, false, false, true, true, false, false, true, true, false, false, true] (codeOf Tryz.f13)) (bld L.a0_J4_d.keep [.cl 0 0, .cl 1 0, .xi (gI (gA vs 2)), .cl 2 0, .xi (gI (gA vs 4)), .ro L.T1 (gR L.T1 (gA vs 5)), .xi (gI (gA vs 6)), .xi (gI (gA vs 7)), .x (.bool (gB (gA vs 8)))] 0 50) [.cells [.xi (cI st 0 0), .xi (cI st 0 1)], .cells [.xi (cI st 1 0), .xi (cI st 1 1), .xi (cI st 1 2), .xi (cI st 1 3)], .cells [.xi (cI st 2 0), .xi (cI st 2 1), .xi (cI st 2 2), .xi (cI st 2 3)]] (cutK L.a0_J4_d K)) (by kernel_rfl) (Eq.symm (L.a0_J4_eq (gI (gA vs 2)) (gI (gA vs 4)) (gR L.T1 (gA vs 5)) (gI (gA vs 6)) (gI (gA vs 7)) (gB (gA vs 8)) (cI st 0 0) (cI st 0 1) (cI st 1 0) (cI st 1 1) (cI st 1 2) (cI st 1 3) (cI st 2 0) (cI st 2 1) (cI st 2 2) (cI st 2 3) K))) fun h => (L.a0_J4.out h)
def L.a0_L1_b (v11 : (List (Int × L.ya))) (v12 v13 last last1 last2 last3 : Int) (self : Int -> Int -> Int -> Int -> Int -> Prop) (Kx0 : Int -> Int -> Int -> Int -> Prop) (Kr : Int -> Int -> Prop) : Prop :=
 (bif (decide (v13 < v12)) then (inB v13 v11.length) /\ L.d5 ((v11.getD v13.toNat (0, (0, (0, 0)))).1) ((v11.getD v13.toNat (0, (0, (0, 0)))).2.1) ((v11.getD v13.toNat (0, (0, (0, 0)))).2.2.1) ((v11.getD v13.toNat (0, (0, (0, 0)))).2.2.2) (fun r => (bif (!r) then L.a0_J4 0 true last last3 ((v11.getD v13.toNat (0, (0, (0, 0)))).1) ((v11.getD v13.toNat (0, (0, (0, 0)))).2.1) ((v11.getD v13.toNat (0, (0, (0, 0)))).2.2.1) ((v11.getD v13.toNat (0, (0, (0, 0)))).2.2.2) (fun code => L.a0_J3 v13 code ((v11.getD v13.toNat (0, (0, (0, 0)))).1) ((v11.getD v13.toNat (0, (0, (0, 0)))).2.1) ((v11.getD v13.toNat (0, (0, (0, 0)))).2.2.1) ((v11.getD v13.toNat (0, (0, (0, 0)))).2.2.2) (self (i64 (v13 + 1))) Kr) else L.e0 ((v11.getD v13.toNat (0, (0, (0, 0)))).2.2.2) (fun r1 => L.a0_J4 0 (bif false then true else (!r1)) last last3 ((v11.getD v13.toNat (0, (0, (0, 0)))).1) ((v11.getD v13.toNat (0, (0, (0, 0)))).2.1) ((v11.getD v13.toNat (0, (0, (0, 0)))).2.2.1) ((v11.getD v13.toNat (0, (0, (0, 0)))).2.2.2) (fun code => L.a0_J3 v13 code ((v11.getD v13.toNat (0, (0, (0, 0)))).1) ((v11.getD v13.toNat (0, (0, (0, 0)))).2.1) ((v11.getD v13.toNat (0, (0, (0, 0)))).2.2.1) ((v11.getD v13.toNat (0, (0, (0, 0)))).2.2.2) (self (i64 (v13 + 1))) Kr)))) else Kx0 last last1 last2 last3)
def L.a0_L1_R (v11 : (List (Int × L.ya))) (v12 : Int) : Nat -> Int -> Int -> Int -> Int -> Int -> (Int -> Int -> Int -> Int -> Prop) -> (Int -> Int -> Prop) -> Prop
 | 0, _, _, _, _, _, _, _ => False
 | fu + 1, v13, last, last1, last2, last3, Kx0, Kr => L.a0_L1_b v11 v12 v13 last last1 last2 last3 (fun v13 last last1 last2 last3 => L.a0_L1_R v11 v12 fu v13 last last1 last2 last3 Kx0 Kr) Kx0 Kr
structure L.a0_L1 (v11 : (List (Int × L.ya))) (v12 v13 last last1 last2 last3 : Int) (Kx0 : Int -> Int -> Int -> Int -> Prop) (Kr : Int -> Int -> Prop) : Prop where
 out : ∃ fu, L.a0_L1_R v11 v12 fu v13 last last1 last2 last3 Kx0 Kr
def L.a0_L1_d : LoopD := { base := 2, vecs := [], flds := [], keep := [2, 3, 11, 12, 13], out := [2], rets := [2], rv := [], rbase := 0 }
def L.a0_L1_ss : List Sh := [.cl 0 0, .cl 1 0, .ro L.T1, .int .i64, .int .i64]
def L.a0_L1_os : List OSh := [.cells [.int .i64, .int .i64], .cells [.int .i64, .int .i64, .int .i64, .int .i64]]
def L.a0_L1_G (vs : List V) (st : List Ob) (K : Ex -> St) : Prop := L.a0_L1 (gR L.T1 (gA vs 2)) (gI (gA vs 3)) (gI (gA vs 4)) (cI st 1 0) (cI st 1 1) (cI st 1 2) (cI st 1 3) (fun q0_ q1_ q2_ q3_ => K (.exit 0) (bld [2] [.cl 0 0] 0 50) [.cells [.xi (cI st 0 0), .xi (cI st 0 1)], .cells [.xi q0_, .xi q1_, .xi q2_, .xi q3_]]) (fun q0_ q1_ => K .ret (bld [2] [.cl 0 0] 0 50) [.cells [.xi q0_, .xi q1_]])
def L.a0_L1_F (vs : List V) (st : List Ob) (K : Ex -> St) : Prop := fitF L.a0_L1_ss L.a0_L1_os vs st (L.a0_L1_G vs st K)
theorem L.a0_L1_eq (v11 : (List (Int × L.ya))) (v12 m0 m01 : Int) (K : Ex -> St) : ∀ (fu : Nat) (v13 : Int) (last : Int) (last1 : Int) (last2 : Int) (last3 : Int), L.a0_L1_R v11 v12 fu v13 last last1 last2 last3 (fun q0_ q1_ q2_ q3_ => K (.exit 0) (bld [2] [.cl 0 0] 0 50) [.cells [.xi m0, .xi m01], .cells [.xi q0_, .xi q1_, .xi q2_, .xi q3_]]) (fun q0_ q1_ => K .ret (bld [2] [.cl 0 0] 0 50) [.cells [.xi q0_, .xi q1_]]) = iterL (stepL (L.ex L.Γ_a0 L.Δ_a0 (.node .leaf (.node .leaf (.node (.node .leaf (.node .leaf (.cut (.cut .leaf L.a0_J4_d 50 L.a0_J4_F) L.a0_J3_d 50 L.a0_J3_F))) .leaf))) (sub [true, true, true, false, true, false, false] (codeOf Tryz.f13))) 2 L.a0_L1_d K) fu (bld L.a0_L1_d.keep [.cl 0 0, .cl 1 0, .ro L.T1 v11, .xi v12, .xi v13] 0 50) [.cells [.xi m0, .xi m01], .cells [.xi last, .xi last1, .xi last2, .xi last3]] := by
 intro fu
 induction fu with
 | zero => intros; rfl
 | succ fu ih =>
  intro v13 last last1 last2 last3
  have e : (fun v13 last last1 last2 last3 => L.a0_L1_R v11 v12 fu v13 last last1 last2 last3 (fun q0_ q1_ q2_ q3_ => K (.exit 0) (bld [2] [.cl 0 0] 0 50) [.cells [.xi m0, .xi m01], .cells [.xi q0_, .xi q1_, .xi q2_, .xi q3_]]) (fun q0_ q1_ => K .ret (bld [2] [.cl 0 0] 0 50) [.cells [.xi q0_, .xi q1_]])) = fun v13 last last1 last2 last3 => iterL (stepL (L.ex L.Γ_a0 L.Δ_a0 (.node .leaf (.node .leaf (.node (.node .leaf (.node .leaf (.cut (.cut .leaf L.a0_J4_d 50 L.a0_J4_F) L.a0_J3_d 50 L.a0_J3_F))) .leaf))) (sub [true, true, true, false, true, false, false] (codeOf Tryz.f13))) 2 L.a0_L1_d K) fu (bld L.a0_L1_d.keep [.cl 0 0, .cl 1 0, .ro L.T1 v11, .xi v12, .xi v13] 0 50) [.cells [.xi m0, .xi m01], .cells [.xi last, .xi last1, .xi last2, .xi last3]] := by
   funext v13 last last1 last2 last3; exact ih v13 last last1 last2 last3
  show L.a0_L1_b v11 v12 v13 last last1 last2 last3 (fun v13 last last1 last2 last3 => L.a0_L1_R v11 v12 fu v13 last last1 last2 last3 (fun q0_ q1_ q2_ q3_ => K (.exit 0) (bld [2] [.cl 0 0] 0 50) [.cells [.xi m0, .xi m01], .cells [.xi q0_, .xi q1_, .xi q2_, .xi q3_]]) (fun q0_ q1_ => K .ret (bld [2] [.cl 0 0] 0 50) [.cells [.xi q0_, .xi q1_]])) (fun q0_ q1_ q2_ q3_ => K (.exit 0) (bld [2] [.cl 0 0] 0 50) [.cells [.xi m0, .xi m01], .cells [.xi q0_, .xi q1_, .xi q2_, .xi q3_]]) (fun q0_ q1_ => K .ret (bld [2] [.cl 0 0] 0 50) [.cells [.xi q0_, .xi q1_]]) = _
  rw [e]
  kernel_rfl
theorem L.a0_L1_imp (vs : List V) (st : List Ob) (K : Ex -> St) (h : L.a0_L1_G vs st K) : ∃ fu, iterL (stepL (L.ex L.Γ_a0 L.Δ_a0 (.node .leaf (.node .leaf (.node (.node .leaf (.node .leaf (.cut (.cut .leaf L.a0_J4_d 50 L.a0_J4_F) L.a0_J3_d 50 L.a0_J3_F))) .leaf))) (sub [true, true, true, false, true, false, false] (codeOf Tryz.f13))) 2 L.a0_L1_d K) fu (bld L.a0_L1_d.keep (mkL L.a0_L1_ss 0 vs) 0 50) (mkOs L.a0_L1_os 0 st) :=
 exMap (fun fu h => @Eq.mp _ _ (Eq.trans (L.a0_L1_eq (gR L.T1 (gA vs 2)) (gI (gA vs 3)) (cI st 0 0) (cI st 0 1) K fu (gI (gA vs 4)) (cI st 1 0) (cI st 1 1) (cI st 1 2) (cI st 1 3)) (by kernel_rfl)) h) (L.a0_L1.out h)
theorem L.a0_L1_ok : AnnOk L.pg (CC L.pg L.Γ_a0 L.Δ_a0) (drawD L.pg L.Γ_a0 L.Δ_a0) 0 (.lift L.a0_L1_d 50 L.a0_L1_F) (.loop (sub [true, true, true, false, true, false, false] (codeOf Tryz.f13))) :=
 lift_ok (an := (.node .leaf (.node .leaf (.node (.node .leaf (.node .leaf (.cut (.cut .leaf L.a0_J4_d 50 L.a0_J4_F) L.a0_J3_d 50 L.a0_J3_F))) .leaf)))) (ss := L.a0_L1_ss) (os := L.a0_L1_os) (G := L.a0_L1_G) rfl (Nat.le_of_ble_eq_true rfl) ⟨(annOk_leaf _), ⟨(annOk_leaf _), ⟨⟨(annOk_leaf _), ⟨(annOk_leaf _), (cut_ok (ay := .leaf) (ss := L.a0_J3_ss) (os := L.a0_J3_os) (G := L.a0_J3_G) rfl (cut_ok (ay := .leaf) (ss := L.a0_J4_ss) (os := L.a0_J4_os) (G := L.a0_J4_G) rfl (annOk_leaf _) (Nat.le_of_ble_eq_true rfl) (Nat.le_of_ble_eq_true rfl) (annOk_leaf _) L.a0_J4_ok) (Nat.le_of_ble_eq_true rfl) (Nat.le_of_ble_eq_true rfl) (annOk_leaf _) L.a0_J3_ok)⟩⟩, (annOk_leaf _)⟩⟩⟩ (L.a0_L1_imp)
def L.a0_B (log : (List (Int × L.ya))) (K : Int -> Int -> Prop) : Prop :=
 (bif (decide ((log.length : Int) > 40)) then K 2 (-1) else L.a0_L1 log (log.length : Int) 0 0 0 0 0 (fun last last1 last2 last3 => K 0 0) (fun m m1 => K m m1))
structure L.a0 (log : (List (Int × L.ya))) (K : Int -> Int -> Prop) : Prop where
 out : L.a0_B log K
def L.a0_ss : List Sh := [.ro L.T1]
def L.a0_G (vs : List V) (K : V -> List Ob -> Prop) : Prop := L.a0 (gR L.T1 (gA vs 0)) (fun r0 r1 => K (.agg [.xi r0, .xi r1]) [])
def L.a0_S : SemF := fun args K => argF L.a0_ss args fun a => L.a0_G a K
noncomputable abbrev L.a0_N : SemF := run L.pg L.Γ_a0 L.Δ_a0 (.node .leaf (.node .leaf (.node .leaf (.node (.node .leaf (.lift L.a0_L1_d 50 L.a0_L1_F)) .leaf)))) .any Tryz.f13
theorem L.a0_eq (log : (List (Int × L.ya))) (K : V -> List Ob -> Prop) : L.a0_N [.ro L.T1 log] K = L.a0_B log (fun r0 r1 => K (.agg [.xi r0, .xi r1]) []) := by
 kernel_rfl
theorem L.a0_imp (vs : List V) (K : V -> List Ob -> Prop) : Imp (L.a0_G vs K) (L.a0_N (mkL L.a0_ss 0 vs) K) :=
 Imp.of (Eq.trans (b := L.a0_N [.ro L.T1 (gR L.T1 (gA vs 0))] K) (by kernel_rfl) (L.a0_eq (gR L.T1 (gA vs 0)) K)) fun h => (L.a0.out h)
theorem L.a0_ok : SoundFn L.pg 13 L.a0_S :=
 fn_ok (sem := L.a0_N) (ss := L.a0_ss) (G := L.a0_G) (run_ok L.Γ_a0_ok L.Δ_a0_ok Tryz.func13 (ann := (.node .leaf (.node .leaf (.node .leaf (.node (.node .leaf (.lift L.a0_L1_d 50 L.a0_L1_F)) .leaf))))) ⟨(annOk_leaf _), ⟨(annOk_leaf _), ⟨(annOk_leaf _), ⟨⟨(annOk_leaf _), L.a0_L1_ok⟩, (annOk_leaf _)⟩⟩⟩⟩) L.a0_imp
def L.Γ_c7 : Ctx := ctxC L.Γ_a0 13 L.a0_S
theorem L.Γ_c7_ok : SoundG L.pg L.Γ_c7 := ctxC_ok L.Γ_a0_ok L.a0_ok
def L.Δ_c7 : CtxO := L.Δ_a0
theorem L.Δ_c7_ok : SoundGO L.pg L.Δ_c7 := L.Δ_a0_ok
def L.c7_B (s : (List (Int × L.ya))) (K : (List (Int × L.ya)) -> Prop) : Prop :=
 (∀ b : Bool, (s.length ≠ 0 -> b = false) -> (bif b then K ([] : List (Int × L.ya)) else (fits (([] : List (Int × L.ya)).length + s.length)) /\ K (([] : List (Int × L.ya)) ++ s)))
structure L.c7 (s : (List (Int × L.ya))) (K : (List (Int × L.ya)) -> Prop) : Prop where
 out : L.c7_B s K
def L.c7_ss : List Sh := [.ro L.T1]
def L.c7_G (vs : List V) (K : V -> List Ob -> Prop) : Prop := L.c7 (gR L.T1 (gA vs 0)) (fun r0 => K (.vec 0) [.vec L.T1 0 r0])
def L.c7_S : SemF := fun args K => argF L.c7_ss args fun a => L.c7_G a K
noncomputable abbrev L.c7_N : SemF := run L.pg L.Γ_c7 L.Δ_c7 .leaf (.sl L.T1) Tryz.f31
theorem L.c7_eq (s : (List (Int × L.ya))) (K : V -> List Ob -> Prop) : L.c7_N [.ro L.T1 s] K = L.c7_B s (fun r0 => K (.vec 0) [.vec L.T1 0 r0]) := by
 kernel_rfl
theorem L.c7_imp (vs : List V) (K : V -> List Ob -> Prop) : Imp (L.c7_G vs K) (L.c7_N (mkL L.c7_ss 0 vs) K) :=
 Imp.of (Eq.trans (b := L.c7_N [.ro L.T1 (gR L.T1 (gA vs 0))] K) (by kernel_rfl) (L.c7_eq (gR L.T1 (gA vs 0)) K)) fun h => (L.c7.out h)
theorem L.c7_ok : SoundFn L.pg 31 L.c7_S :=
 fn_ok (sem := L.c7_N) (ss := L.c7_ss) (G := L.c7_G) (run_ok L.Γ_c7_ok L.Δ_c7_ok Tryz.func31 (ann := .leaf) (annOk_leaf _)) L.c7_imp
def L.Γ_a2 : Ctx := ctxC L.Γ_c7 31 L.c7_S
theorem L.Γ_a2_ok : SoundG L.pg L.Γ_a2 := ctxC_ok L.Γ_c7_ok L.c7_ok
def L.Δ_a2 : CtxO := L.Δ_c7
theorem L.Δ_a2_ok : SoundGO L.pg L.Δ_a2 := L.Δ_c7_ok
def L.a2_J2_B (log2 : (List (Int × L.ya))) (code last7 r r1 r2 r3 : Int) (Kr : Int -> Int -> (List (Int × L.ya)) -> Prop) : Prop :=
 (bif (code != 0) then Kr code (-2) ([] : List (Int × L.ya)) else L.d7 last7 r r1 r2 r3 (fun r4 => (L.c7 log2 (fun r5 => (fits (r5.length + ([(r, (r1, (r2, r4)))] : List (Int × L.ya)).length)) /\ Kr 0 0 (r5 ++ ([(r, (r1, (r2, r4)))] : List (Int × L.ya))))) /\ (L.c7 log2 (fun r6 => (fits (r6.length + ([(r, (r1, (r2, r4)))] : List (Int × L.ya)).length)) /\ Kr 0 0 (r6 ++ ([(r, (r1, (r2, r4)))] : List (Int × L.ya))))) /\ L.c7 log2 (fun r7 => (fits (r7.length + ([(r, (r1, (r2, r4)))] : List (Int × L.ya)).length)) /\ Kr 0 0 (r7 ++ ([(r, (r1, (r2, r4)))] : List (Int × L.ya))))))
structure L.a2_J2 (log2 : (List (Int × L.ya))) (code last7 r r1 r2 r3 : Int) (Kr : Int -> Int -> (List (Int × L.ya)) -> Prop) : Prop where
 out : L.a2_J2_B log2 code last7 r r1 r2 r3 Kr
def L.a2_J2_d : CutD := { base := 4, vecs := [], flds := [], keep := [0, 9, 11, 13, 14], out := [], rets := [8, 9], ovecs := [], oflds := [], rv := [(8, .mv L.T1)], rbase := 3 }
def L.a2_J2_ss : List Sh := [.ro L.T1, .cl 0 0, .cl 2 0, .cl 3 0, .int .i64]
def L.a2_J2_os : List OSh := [.cells [.int .i64, .int .i64], .cells [.int .i64, .int .i64], .cells [.int .i64, .int .i64, .int .i64, .int .i64], .cells [.int .i64, .int .i64, .int .i64, .int .i64]]
def L.a2_J2_G (vs : List V) (st : List Ob) (K : Ex -> St) : Prop := L.a2_J2 (gR L.T1 (gA vs 0)) (gI (gA vs 4)) (cI st 2 3) (cI st 3 0) (cI st 3 1) (cI st 3 2) (cI st 3 3) (fun q0_ q1_ q2_ => K .ret (bld [8, 9] [.vec 3, .cl 0 0] 0 62) [.cells [.xi q0_, .xi q1_], .cells [.xi (cI st 1 0), .xi (cI st 1 1)], .cells [.xi (cI st 2 0), .xi (cI st 2 1), .xi (cI st 2 2), .xi (cI st 2 3)], .vec L.T1 0 q2_])
def L.a2_J2_F (vs : List V) (st : List Ob) (K : Ex -> St) : Prop := fitF L.a2_J2_ss L.a2_J2_os vs st (L.a2_J2_G vs st K)
theorem L.a2_J2_eq (log2 : (List (Int × L.ya))) (code m02 m03 m12 m13 last4 last5 last6 last7 r r1 r2 r3 : Int) (K : Ex -> St) : L.a2_J2_B log2 code last7 r r1 r2 r3 (fun q0_ q1_ q2_ => K .ret (bld [8, 9] [.vec 3, .cl 0 0] 0 62) [.cells [.xi q0_, .xi q1_], .cells [.xi m12, .xi m13], .cells [.xi last4, .xi last5, .xi last6, .xi last7], .vec L.T1 0 q2_]) = L.ex L.Γ_a2 L.Δ_a2 .leaf (sub [true, true, true, true, true, true, true] (codeOf Tryz.f11)) (bld L.a2_J2_d.keep [.ro L.T1 log2, .cl 0 0, .cl 2 0, .cl 3 0, .xi code] 0 62) [.cells [.xi m02, .xi m03], .cells [.xi m12, .xi m13], .cells [.xi last4, .xi last5, .xi last6, .xi last7], .cells [.xi r, .xi r1, .xi r2, .xi r3]] (cutK L.a2_J2_d K) := by
 kernel_rfl
theorem L.a2_J2_ok (vs : List V) (st : List Ob) (K : Ex -> St) : Imp (L.a2_J2_G vs st K) (L.ex L.Γ_a2 L.Δ_a2 .leaf (sub [true, true, true, true, true, true, true] (codeOf Tryz.f11)) (bld L.a2_J2_d.keep (mkL L.a2_J2_ss 0 vs) 0 62) (mkOs L.a2_J2_os 0 st) (cutK L.a2_J2_d K)) :=
 Imp.of (Eq.trans (b := L.ex L.Γ_a2 L.Δ_a2 .leaf (sub [true, true, true, true, true, true, true] (codeOf Tryz.f11)) (bld L.a2_J2_d.keep [.ro L.T1 (gR L.T1 (gA vs 0)), .cl 0 0, .cl 2 0, .cl 3 0, .xi (gI (gA vs 4))] 0 62) [.cells [.xi (cI st 0 0), .xi (cI st 0 1)], .cells [.xi (cI st 1 0), .xi (cI st 1 1)], .cells [.xi (cI st 2 0), .xi (cI st 2 1), .xi (cI st 2 2), .xi (cI st 2 3)], .cells [.xi (cI st 3 0), .xi (cI st 3 1), .xi (cI st 3 2), .xi (cI st 3 3)]] (cutK L.a2_J2_d K)) (by kernel_rfl) (Eq.symm (L.a2_J2_eq (gR L.T1 (gA vs 0)) (gI (gA vs 4)) (cI st 0 0) (cI st 0 1) (cI st 1 0) (cI st 1 1) (cI st 2 0) (cI st 2 1) (cI st 2 2) (cI st 2 3) (cI st 3 0) (cI st 3 1) (cI st 3 2) (cI st 3 3) K))) fun h => (L.a2_J2.out h)
def L.a2_J1_B (log1 : (List (Int × L.ya))) (time1 user1 action1 last last3 : Int) (Kr : (List (Int × L.ya)) -> Int -> Int -> Prop) : Prop :=
 L.d5 time1 user1 action1 0 (fun r => (bif (!r) then L.a2_J2 log1 3 last3 time1 user1 action1 0 (fun m m2 r => Kr r m m2) else (bif (decide (time1 < last)) then L.a2_J2 log1 16 last3 time1 user1 action1 0 (fun m m2 r => Kr r m m2) else (bif (decide ((log1.length : Int) ≥ 40)) then L.a2_J2 log1 14 last3 time1 user1 action1 0 (fun m m2 r => Kr r m m2) else L.a2_J2 log1 0 last3 time1 user1 action1 0 (fun m m2 r => Kr r m m2)))))
structure L.a2_J1 (log1 : (List (Int × L.ya))) (time1 user1 action1 last last3 : Int) (Kr : (List (Int × L.ya)) -> Int -> Int -> Prop) : Prop where
 out : L.a2_J1_B log1 time1 user1 action1 last last3 Kr
def L.a2_J1_d : CutD := { base := 3, vecs := [], flds := [], keep := [0, 1, 2, 3, 9, 11], out := [], rets := [8, 9], ovecs := [], oflds := [], rv := [(8, .mv L.T1)], rbase := 0 }
def L.a2_J1_ss : List Sh := [.ro L.T1, .int .i64, .int .i64, .int .i64, .cl 0 0, .cl 2 0]
def L.a2_J1_os : List OSh := [.cells [.int .i64, .int .i64], .cells [.int .i64, .int .i64], .cells [.int .i64, .int .i64, .int .i64, .int .i64]]
def L.a2_J1_G (vs : List V) (st : List Ob) (K : Ex -> St) : Prop := L.a2_J1 (gR L.T1 (gA vs 0)) (gI (gA vs 1)) (gI (gA vs 2)) (gI (gA vs 3)) (cI st 2 0) (cI st 2 3) (fun q0_ q1_ q2_ => K .ret (bld [8, 9] [.vec 0, .cl 1 0] 0 62) [.vec L.T1 0 q0_, .cells [.xi q1_, .xi q2_]])
def L.a2_J1_F (vs : List V) (st : List Ob) (K : Ex -> St) : Prop := fitF L.a2_J1_ss L.a2_J1_os vs st (L.a2_J1_G vs st K)
theorem L.a2_J1_eq (log1 : (List (Int × L.ya))) (time1 user1 action1 m0 m01 m1 m11 last last1 last2 last3 : Int) (K : Ex -> St) : L.a2_J1_B log1 time1 user1 action1 last last3 (fun q0_ q1_ q2_ => K .ret (bld [8, 9] [.vec 0, .cl 1 0] 0 62) [.vec L.T1 0 q0_, .cells [.xi q1_, .xi q2_]]) = L.ex L.Γ_a2 L.Δ_a2 (.node .leaf (.node .leaf (.cut .leaf L.a2_J2_d 62 L.a2_J2_F))) (sub [true, true, true, true] (codeOf Tryz.f11)) (bld L.a2_J1_d.keep [.ro L.T1 log1, .xi time1, .xi user1, .xi action1, .cl 0 0, .cl 2 0] 0 62) [.cells [.xi m0, .xi m01], .cells [.xi m1, .xi m11], .cells [.xi last, .xi last1, .xi last2, .xi last3]] (cutK L.a2_J1_d K) := by
 kernel_rfl
theorem L.a2_J1_ok (vs : List V) (st : List Ob) (K : Ex -> St) : Imp (L.a2_J1_G vs st K) (L.ex L.Γ_a2 L.Δ_a2 (.node .leaf (.node .leaf (.cut .leaf L.a2_J2_d 62 L.a2_J2_F))) (sub [true, true, true, true] (codeOf Tryz.f11)) (bld L.a2_J1_d.keep (mkL L.a2_J1_ss 0 vs) 0 62) (mkOs L.a2_J1_os 0 st) (cutK L.a2_J1_d K)) :=
 Imp.of (Eq.trans (b := L.ex L.Γ_a2 L.Δ_a2 (.node .leaf (.node .leaf (.cut .leaf L.a2_J2_d 62 L.a2_J2_F))) (sub [true, true, true, true] (codeOf Tryz.f11)) (bld L.a2_J1_d.keep [.ro L.T1 (gR L.T1 (gA vs 0)), .xi (gI (gA vs 1)), .xi (gI (gA vs 2)), .xi (gI (gA vs 3)), .cl 0 0, .cl 2 0] 0 62) [.cells [.xi (cI st 0 0), .xi (cI st 0 1)], .cells [.xi (cI st 1 0), .xi (cI st 1 1)], .cells [.xi (cI st 2 0), .xi (cI st 2 1), .xi (cI st 2 2), .xi (cI st 2 3)]] (cutK L.a2_J1_d K)) (by kernel_rfl) (Eq.symm (L.a2_J1_eq (gR L.T1 (gA vs 0)) (gI (gA vs 1)) (gI (gA vs 2)) (gI (gA vs 3)) (cI st 0 0) (cI st 0 1) (cI st 1 0) (cI st 1 1) (cI st 2 0) (cI st 2 1) (cI st 2 2) (cI st 2 3) K))) fun h => (L.a2_J1.out h)
def L.a2_B (log : (List (Int × L.ya))) (time user action : Int) (K : (List (Int × L.ya)) -> Int -> Int -> Prop) : Prop :=
 L.a0 log (fun rCode rIndex => (bif (!((rCode == 0) && ((rIndex == 0) && true))) then K ([] : List (Int × L.ya)) rCode rIndex else (bif (decide ((log.length : Int) > 0)) then (inB (i64 ((log.length : Int) - 1)) log.length) /\ L.a2_J1 log time user action ((log.getD ((i64 ((log.length : Int) - 1)).toNat) (0, (0, (0, 0)))).1) ((log.getD ((i64 ((log.length : Int) - 1)).toNat) (0, (0, (0, 0)))).2.2.2) K else L.a2_J1 log time user action 0 0 K)))
structure L.a2 (log : (List (Int × L.ya))) (time user action : Int) (K : (List (Int × L.ya)) -> Int -> Int -> Prop) : Prop where
 out : L.a2_B log time user action K
def L.a2_ss : List Sh := [.ro L.T1, .int .i64, .int .i64, .int .i64]
def L.a2_G (vs : List V) (K : V -> List Ob -> Prop) : Prop := L.a2 (gR L.T1 (gA vs 0)) (gI (gA vs 1)) (gI (gA vs 2)) (gI (gA vs 3)) (fun r0 r1 r2 => K (.tup [.vec 0, .agg [.xi r1, .xi r2]]) [.vec L.T1 0 r0])
def L.a2_S : SemF := fun args K => argF L.a2_ss args fun a => L.a2_G a K
noncomputable abbrev L.a2_N : SemF := run L.pg L.Γ_a2 L.Δ_a2 (.node .leaf (.node .leaf (.node .leaf (.cut .leaf L.a2_J1_d 62 L.a2_J1_F)))) (.tup [.sl L.T1, .any]) Tryz.f11
theorem L.a2_eq (log : (List (Int × L.ya))) (time user action : Int) (K : V -> List Ob -> Prop) : L.a2_N [.ro L.T1 log, .xi time, .xi user, .xi action] K = L.a2_B log time user action (fun r0 r1 r2 => K (.tup [.vec 0, .agg [.xi r1, .xi r2]]) [.vec L.T1 0 r0]) := by
 kernel_rfl
theorem L.a2_imp (vs : List V) (K : V -> List Ob -> Prop) : Imp (L.a2_G vs K) (L.a2_N (mkL L.a2_ss 0 vs) K) :=
 Imp.of (Eq.trans (b := L.a2_N [.ro L.T1 (gR L.T1 (gA vs 0)), .xi (gI (gA vs 1)), .xi (gI (gA vs 2)), .xi (gI (gA vs 3))] K) (by kernel_rfl) (L.a2_eq (gR L.T1 (gA vs 0)) (gI (gA vs 1)) (gI (gA vs 2)) (gI (gA vs 3)) K)) fun h => (L.a2.out h)
theorem L.a2_ok : SoundFn L.pg 11 L.a2_S :=
 fn_ok (sem := L.a2_N) (ss := L.a2_ss) (G := L.a2_G) (run_ok L.Γ_a2_ok L.Δ_a2_ok Tryz.func11 (ann := (.node .leaf (.node .leaf (.node .leaf (.cut .leaf L.a2_J1_d 62 L.a2_J1_F))))) ⟨(annOk_leaf _), ⟨(annOk_leaf _), ⟨(annOk_leaf _), (cut_ok (ay := (.node .leaf (.node .leaf (.cut .leaf L.a2_J2_d 62 L.a2_J2_F)))) (ss := L.a2_J1_ss) (os := L.a2_J1_os) (G := L.a2_J1_G) rfl (annOk_leaf _) (Nat.le_of_ble_eq_true rfl) (Nat.le_of_ble_eq_true rfl) ⟨(annOk_leaf _), ⟨(annOk_leaf _), (cut_ok (ay := .leaf) (ss := L.a2_J2_ss) (os := L.a2_J2_os) (G := L.a2_J2_G) rfl (annOk_leaf _) (Nat.le_of_ble_eq_true rfl) (Nat.le_of_ble_eq_true rfl) (annOk_leaf _) L.a2_J2_ok)⟩⟩ L.a2_J1_ok)⟩⟩⟩) L.a2_imp
def L.Γ_a9 : Ctx := ctxC L.Γ_a2 11 L.a2_S
theorem L.Γ_a9_ok : SoundG L.pg L.Γ_a9 := ctxC_ok L.Γ_a2_ok L.a2_ok
def L.Δ_a9 : CtxO := L.Δ_a2
theorem L.Δ_a9_ok : SoundGO L.pg L.Δ_a9 := L.Δ_a2_ok
def L.a9_L1_b (a1 b1 : (List Int)) (i_ : Int) (self : Int -> Prop) (Kx0 : Prop) (Kr : Bool -> Prop) : Prop :=
 (bif (decide (i_ < (a1.length : Int))) then (inB i_ a1.length) /\ (inB i_ b1.length) /\ (bif ((a1.getD i_.toNat 0) != (b1.getD i_.toNat 0)) then Kr false else self (i64 (i_ + 1))) else Kx0)
def L.a9_L1_R (a1 b1 : (List Int)) : Nat -> Int -> (Prop) -> (Bool -> Prop) -> Prop
 | 0, _, _, _ => False
 | fu + 1, i_, Kx0, Kr => L.a9_L1_b a1 b1 i_ (fun i_ => L.a9_L1_R a1 b1 fu i_ Kx0 Kr) Kx0 Kr
structure L.a9_L1 (a1 b1 : (List Int)) (i_ : Int) (Kx0 : Prop) (Kr : Bool -> Prop) : Prop where
 out : ∃ fu, L.a9_L1_R a1 b1 fu i_ Kx0 Kr
def L.a9_L1_d : LoopD := { base := 0, vecs := [], flds := [], keep := [0, 1, 5], out := [], rets := [4], rv := [], rbase := 0 }
def L.a9_L1_ss : List Sh := [.ro (.int .i64), .ro (.int .i64), .int .i64]
def L.a9_L1_os : List OSh := []
def L.a9_L1_G (vs : List V) (st : List Ob) (K : Ex -> St) : Prop := L.a9_L1 (gR (.int .i64) (gA vs 0)) (gR (.int .i64) (gA vs 1)) (gI (gA vs 2)) (K (.exit 0) (bld [] [] 0 26) []) (fun q0_ => K .ret (bld [4] [.x (.bool q0_)] 0 26) [])
def L.a9_L1_F (vs : List V) (st : List Ob) (K : Ex -> St) : Prop := fitF L.a9_L1_ss L.a9_L1_os vs st (L.a9_L1_G vs st K)
theorem L.a9_L1_eq (a1 b1 : (List Int)) (K : Ex -> St) : ∀ (fu : Nat) (i_ : Int), L.a9_L1_R a1 b1 fu i_ (K (.exit 0) (bld [] [] 0 26) []) (fun q0_ => K .ret (bld [4] [.x (.bool q0_)] 0 26) []) = iterL (stepL (L.ex L.Γ_a9 L.Δ_a9 .leaf (sub [true, true, false, true, false, false] (codeOf Tryz.f12))) 0 L.a9_L1_d K) fu (bld L.a9_L1_d.keep [.ro (.int .i64) a1, .ro (.int .i64) b1, .xi i_] 0 26) [] := by
 intro fu
 induction fu with
 | zero => intros; rfl
 | succ fu ih =>
  intro i_
  have e : (fun i_ => L.a9_L1_R a1 b1 fu i_ (K (.exit 0) (bld [] [] 0 26) []) (fun q0_ => K .ret (bld [4] [.x (.bool q0_)] 0 26) [])) = fun i_ => iterL (stepL (L.ex L.Γ_a9 L.Δ_a9 .leaf (sub [true, true, false, true, false, false] (codeOf Tryz.f12))) 0 L.a9_L1_d K) fu (bld L.a9_L1_d.keep [.ro (.int .i64) a1, .ro (.int .i64) b1, .xi i_] 0 26) [] := by
   funext i_; exact ih i_
  show L.a9_L1_b a1 b1 i_ (fun i_ => L.a9_L1_R a1 b1 fu i_ (K (.exit 0) (bld [] [] 0 26) []) (fun q0_ => K .ret (bld [4] [.x (.bool q0_)] 0 26) [])) (K (.exit 0) (bld [] [] 0 26) []) (fun q0_ => K .ret (bld [4] [.x (.bool q0_)] 0 26) []) = _
  rw [e]
  kernel_rfl
theorem L.a9_L1_imp (vs : List V) (st : List Ob) (K : Ex -> St) (h : L.a9_L1_G vs st K) : ∃ fu, iterL (stepL (L.ex L.Γ_a9 L.Δ_a9 .leaf (sub [true, true, false, true, false, false] (codeOf Tryz.f12))) 0 L.a9_L1_d K) fu (bld L.a9_L1_d.keep (mkL L.a9_L1_ss 0 vs) 0 26) (mkOs L.a9_L1_os 0 st) :=
 exMap (fun fu h => @Eq.mp _ _ (Eq.trans (L.a9_L1_eq (gR (.int .i64) (gA vs 0)) (gR (.int .i64) (gA vs 1)) K fu (gI (gA vs 2))) (by kernel_rfl)) h) (L.a9_L1.out h)
theorem L.a9_L1_ok : AnnOk L.pg (CC L.pg L.Γ_a9 L.Δ_a9) (drawD L.pg L.Γ_a9 L.Δ_a9) 0 (.lift L.a9_L1_d 26 L.a9_L1_F) (.loop (sub [true, true, false, true, false, false] (codeOf Tryz.f12))) :=
 lift_ok (an := .leaf) (ss := L.a9_L1_ss) (os := L.a9_L1_os) (G := L.a9_L1_G) rfl (Nat.le_of_ble_eq_true rfl) (annOk_leaf _) (L.a9_L1_imp)
def L.a9_B (a b : (List Int)) (K : Bool -> Prop) : Prop :=
 (bif ((a.length : Int) != (b.length : Int)) then K false else L.a9_L1 a b 0 (K true) (fun r => K r))
structure L.a9 (a b : (List Int)) (K : Bool -> Prop) : Prop where
 out : L.a9_B a b K
def L.a9_ss : List Sh := [.ro (.int .i64), .ro (.int .i64)]
def L.a9_G (vs : List V) (K : V -> List Ob -> Prop) : Prop := L.a9 (gR (.int .i64) (gA vs 0)) (gR (.int .i64) (gA vs 1)) (fun r0 => K (.x (.bool r0)) [])
def L.a9_S : SemF := fun args K => argF L.a9_ss args fun a => L.a9_G a K
noncomputable abbrev L.a9_N : SemF := run L.pg L.Γ_a9 L.Δ_a9 (.node .leaf (.node .leaf (.node (.node .leaf (.lift L.a9_L1_d 26 L.a9_L1_F)) .leaf))) .any Tryz.f12
theorem L.a9_eq (a b : (List Int)) (K : V -> List Ob -> Prop) : L.a9_N [.ro (.int .i64) a, .ro (.int .i64) b] K = L.a9_B a b (fun r0 => K (.x (.bool r0)) []) := by
 kernel_rfl
theorem L.a9_imp (vs : List V) (K : V -> List Ob -> Prop) : Imp (L.a9_G vs K) (L.a9_N (mkL L.a9_ss 0 vs) K) :=
 Imp.of (Eq.trans (b := L.a9_N [.ro (.int .i64) (gR (.int .i64) (gA vs 0)), .ro (.int .i64) (gR (.int .i64) (gA vs 1))] K) (by kernel_rfl) (L.a9_eq (gR (.int .i64) (gA vs 0)) (gR (.int .i64) (gA vs 1)) K)) fun h => (L.a9.out h)
theorem L.a9_ok : SoundFn L.pg 12 L.a9_S :=
 fn_ok (sem := L.a9_N) (ss := L.a9_ss) (G := L.a9_G) (run_ok L.Γ_a9_ok L.Δ_a9_ok Tryz.func12 (ann := (.node .leaf (.node .leaf (.node (.node .leaf (.lift L.a9_L1_d 26 L.a9_L1_F)) .leaf)))) ⟨(annOk_leaf _), ⟨(annOk_leaf _), ⟨⟨(annOk_leaf _), L.a9_L1_ok⟩, (annOk_leaf _)⟩⟩⟩) L.a9_imp
def L.Γ_e4 : Ctx := ctxC L.Γ_a9 12 L.a9_S
theorem L.Γ_e4_ok : SoundG L.pg L.Γ_e4 := ctxC_ok L.Γ_a9_ok L.a9_ok
def L.Δ_e4 : CtxO := L.Δ_a9
theorem L.Δ_e4_ok : SoundGO L.pg L.Δ_e4 := L.Δ_a9_ok
def L.e4_B (K : Bool -> Prop) : Prop :=
 L.b2 9 0 7 0 (fun r rCode rIndex => L.a6 1 0 0 0 50 ([(1, (7, (0, (0, 0))))] : List (Int × (Int × L.ya))) (fun r1 rCode1 rIndex1 => L.d9 ([([5] : List Int)] : List (List Int)) 2 (fun r2 rCode2 rIndex2 => L.a2 ([] : List (Int × L.ya)) 3 1 9 (fun r3 rCode3 rIndex3 => (bif (bif (bif (bif (bif (rCode == 0) then (rCode1 == 0) else false) then (rCode2 == 0) else false) then (rCode3 == 0) else false) then (r == 7) else false) then L.a9 r1 ([7] : List Int) (fun r4 => (bif (bif true then r4 else false) then L.a9 r2 ([162] : List Int) (fun r5 => K (bif (bif true then r5 else false) then ((r3.length : Int) == 1) else false)) else K (bif false then ((r3.length : Int) == 1) else false))) else K (bif false then ((r3.length : Int) == 1) else false))))))
structure L.e4 (K : Bool -> Prop) : Prop where
 out : L.e4_B K
def L.e4_ss : List Sh := []
def L.e4_G (vs : List V) (K : V -> List Ob -> Prop) : Prop := L.e4 (fun r0 => K (.x (.bool r0)) [])
def L.e4_S : SemF := fun args K => argF L.e4_ss args fun a => L.e4_G a K
noncomputable abbrev L.e4_N : SemF := run L.pg L.Γ_e4 L.Δ_e4 .leaf .any Tryz.f4
theorem L.e4_eq (K : V -> List Ob -> Prop) : L.e4_N [] K = L.e4_B (fun r0 => K (.x (.bool r0)) []) := by
 kernel_rfl
theorem L.e4_imp (vs : List V) (K : V -> List Ob -> Prop) : Imp (L.e4_G vs K) (L.e4_N (mkL L.e4_ss 0 vs) K) :=
 Imp.of (Eq.trans (b := L.e4_N [] K) (by kernel_rfl) (L.e4_eq K)) fun h => (L.e4.out h)
theorem L.e4_ok : SoundFn L.pg 4 L.e4_S :=
 fn_ok (sem := L.e4_N) (ss := L.e4_ss) (G := L.e4_G) (run_ok L.Γ_e4_ok L.Δ_e4_ok Tryz.func4 (ann := .leaf) (annOk_leaf _)) L.e4_imp
def L.Γ_b5 : Ctx := ctxC L.Γ_e4 4 L.e4_S
theorem L.Γ_b5_ok : SoundG L.pg L.Γ_b5 := ctxC_ok L.Γ_e4_ok L.e4_ok
def L.Δ_b5 : CtxO := L.Δ_e4
theorem L.Δ_b5_ok : SoundGO L.pg L.Δ_b5 := L.Δ_e4_ok
def L.b5_L1_b (v6 : (List (Int × L.ya))) (v7 v8 : Int) (out : (List Int)) (self : Int -> (List Int) -> Prop) (Kx0 : (List Int) -> Prop) : Prop :=
 (bif (decide (v8 < v7)) then (inB v8 v6.length) /\ (fits (out.length + ([(v6.getD v8.toNat (0, (0, (0, 0)))).2.2.2] : List Int).length)) /\ self (i64 (v8 + 1)) (out ++ ([(v6.getD v8.toNat (0, (0, (0, 0)))).2.2.2] : List Int)) else Kx0 out)
def L.b5_L1_R (v6 : (List (Int × L.ya))) (v7 : Int) : Nat -> Int -> (List Int) -> ((List Int) -> Prop) -> Prop
 | 0, _, _, _ => False
 | fu + 1, v8, out, Kx0 => L.b5_L1_b v6 v7 v8 out (fun v8 out => L.b5_L1_R v6 v7 fu v8 out Kx0) Kx0
structure L.b5_L1 (v6 : (List (Int × L.ya))) (v7 v8 : Int) (out : (List Int)) (Kx0 : (List Int) -> Prop) : Prop where
 out : ∃ fu, L.b5_L1_R v6 v7 fu v8 out Kx0
def L.b5_L1_d : LoopD := { base := 0, vecs := [(3, .sl (.int .i64))], flds := [], keep := [3, 6, 7, 8], out := [3], rets := [2], rv := [], rbase := 0 }
def L.b5_L1_ss : List Sh := [.vec 0, .ro L.T1, .int .i64, .int .i64]
def L.b5_L1_os : List OSh := [.vec (.int .i64) true]
def L.b5_L1_G (vs : List V) (st : List Ob) (K : Ex -> St) : Prop := L.b5_L1 (gR L.T1 (gA vs 1)) (gI (gA vs 2)) (gI (gA vs 3)) (oX (.int .i64) (gD st 0)) (fun q0_ => K (.exit 0) (bld [3] [.vec 0] 0 19) [.vec (.int .i64) 0 q0_])
def L.b5_L1_F (vs : List V) (st : List Ob) (K : Ex -> St) : Prop := fitF L.b5_L1_ss L.b5_L1_os vs st (L.b5_L1_G vs st K)
theorem L.b5_L1_eq (v6 : (List (Int × L.ya))) (v7 : Int) (K : Ex -> St) : ∀ (fu : Nat) (v8 : Int) (out : (List Int)), L.b5_L1_R v6 v7 fu v8 out (fun q0_ => K (.exit 0) (bld [3] [.vec 0] 0 19) [.vec (.int .i64) 0 q0_]) = iterL (stepL (L.ex L.Γ_b5 L.Δ_b5 .leaf (sub [true, true, false, true, false, false] (codeOf Tryz.f15))) 0 L.b5_L1_d K) fu (bld L.b5_L1_d.keep [.vec 0, .ro L.T1 v6, .xi v7, .xi v8] 0 19) [.vec (.int .i64) 0 out] := by
 intro fu
 induction fu with
 | zero => intros; rfl
 | succ fu ih =>
  intro v8 out
  have e : (fun v8 out => L.b5_L1_R v6 v7 fu v8 out (fun q0_ => K (.exit 0) (bld [3] [.vec 0] 0 19) [.vec (.int .i64) 0 q0_])) = fun v8 out => iterL (stepL (L.ex L.Γ_b5 L.Δ_b5 .leaf (sub [true, true, false, true, false, false] (codeOf Tryz.f15))) 0 L.b5_L1_d K) fu (bld L.b5_L1_d.keep [.vec 0, .ro L.T1 v6, .xi v7, .xi v8] 0 19) [.vec (.int .i64) 0 out] := by
   funext v8 out; exact ih v8 out
  show L.b5_L1_b v6 v7 v8 out (fun v8 out => L.b5_L1_R v6 v7 fu v8 out (fun q0_ => K (.exit 0) (bld [3] [.vec 0] 0 19) [.vec (.int .i64) 0 q0_])) (fun q0_ => K (.exit 0) (bld [3] [.vec 0] 0 19) [.vec (.int .i64) 0 q0_]) = _
  rw [e]
  kernel_rfl
theorem L.b5_L1_imp (vs : List V) (st : List Ob) (K : Ex -> St) (h : L.b5_L1_G vs st K) : ∃ fu, iterL (stepL (L.ex L.Γ_b5 L.Δ_b5 .leaf (sub [true, true, false, true, false, false] (codeOf Tryz.f15))) 0 L.b5_L1_d K) fu (bld L.b5_L1_d.keep (mkL L.b5_L1_ss 0 vs) 0 19) (mkOs L.b5_L1_os 0 st) :=
 exMap (fun fu h => @Eq.mp _ _ (Eq.trans (L.b5_L1_eq (gR L.T1 (gA vs 1)) (gI (gA vs 2)) K fu (gI (gA vs 3)) (oX (.int .i64) (gD st 0))) (by kernel_rfl)) h) (L.b5_L1.out h)
theorem L.b5_L1_ok : AnnOk L.pg (CC L.pg L.Γ_b5 L.Δ_b5) (drawD L.pg L.Γ_b5 L.Δ_b5) 0 (.lift L.b5_L1_d 19 L.b5_L1_F) (.loop (sub [true, true, false, true, false, false] (codeOf Tryz.f15))) :=
 lift_ok (an := .leaf) (ss := L.b5_L1_ss) (os := L.b5_L1_os) (G := L.b5_L1_G) rfl (Nat.le_of_ble_eq_true rfl) (annOk_leaf _) (L.b5_L1_imp)
def L.b5_B (log : (List (Int × L.ya))) (K : (List Int) -> Prop) : Prop :=
 L.b5_L1 log (log.length : Int) 0 ([] : List Int) (fun out => K out)
structure L.b5 (log : (List (Int × L.ya))) (K : (List Int) -> Prop) : Prop where
 out : L.b5_B log K
def L.b5_ss : List Sh := [.ro L.T1]
def L.b5_G (vs : List V) (K : V -> List Ob -> Prop) : Prop := L.b5 (gR L.T1 (gA vs 0)) (fun r0 => K (.vec 0) [.vec (.int .i64) 0 r0])
def L.b5_S : SemF := fun args K => argF L.b5_ss args fun a => L.b5_G a K
noncomputable abbrev L.b5_N : SemF := run L.pg L.Γ_b5 L.Δ_b5 (.node .leaf (.node .leaf (.node (.node .leaf (.lift L.b5_L1_d 19 L.b5_L1_F)) .leaf))) (.sl (.int .i64)) Tryz.f15
theorem L.b5_eq (log : (List (Int × L.ya))) (K : V -> List Ob -> Prop) : L.b5_N [.ro L.T1 log] K = L.b5_B log (fun r0 => K (.vec 0) [.vec (.int .i64) 0 r0]) := by
 kernel_rfl
theorem L.b5_imp (vs : List V) (K : V -> List Ob -> Prop) : Imp (L.b5_G vs K) (L.b5_N (mkL L.b5_ss 0 vs) K) :=
 Imp.of (Eq.trans (b := L.b5_N [.ro L.T1 (gR L.T1 (gA vs 0))] K) (by kernel_rfl) (L.b5_eq (gR L.T1 (gA vs 0)) K)) fun h => (L.b5.out h)
theorem L.b5_ok : SoundFn L.pg 15 L.b5_S :=
 fn_ok (sem := L.b5_N) (ss := L.b5_ss) (G := L.b5_G) (run_ok L.Γ_b5_ok L.Δ_b5_ok Tryz.func15 (ann := (.node .leaf (.node .leaf (.node (.node .leaf (.lift L.b5_L1_d 19 L.b5_L1_F)) .leaf)))) ⟨(annOk_leaf _), ⟨(annOk_leaf _), ⟨⟨(annOk_leaf _), L.b5_L1_ok⟩, (annOk_leaf _)⟩⟩⟩) L.b5_imp
def L.Γ_c8 : Ctx := ctxC L.Γ_b5 15 L.b5_S
theorem L.Γ_c8_ok : SoundG L.pg L.Γ_c8 := ctxC_ok L.Γ_b5_ok L.b5_ok
def L.Δ_c8 : CtxO := L.Δ_b5
theorem L.Δ_c8_ok : SoundGO L.pg L.Δ_c8 := L.Δ_b5_ok
def L.c8_B (n : Int) (K : Bool -> Prop) : Prop :=
 K (bif (decide (n ≥ 0)) then (decide (n < 2305843009213693951)) else false)
structure L.c8 (n : Int) (K : Bool -> Prop) : Prop where
 out : L.c8_B n K
def L.c8_ss : List Sh := [.int .i64]
def L.c8_G (vs : List V) (K : V -> List Ob -> Prop) : Prop := L.c8 (gI (gA vs 0)) (fun r0 => K (.x (.bool r0)) [])
def L.c8_S : SemF := fun args K => argF L.c8_ss args fun a => L.c8_G a K
noncomputable abbrev L.c8_N : SemF := run L.pg L.Γ_c8 L.Δ_c8 .leaf .any Tryz.f18
theorem L.c8_eq (n : Int) (K : V -> List Ob -> Prop) : L.c8_N [.xi n] K = L.c8_B n (fun r0 => K (.x (.bool r0)) []) := by
 kernel_rfl
theorem L.c8_imp (vs : List V) (K : V -> List Ob -> Prop) : Imp (L.c8_G vs K) (L.c8_N (mkL L.c8_ss 0 vs) K) :=
 Imp.of (Eq.trans (b := L.c8_N [.xi (gI (gA vs 0))] K) (by kernel_rfl) (L.c8_eq (gI (gA vs 0)) K)) fun h => (L.c8.out h)
theorem L.c8_ok : SoundFn L.pg 18 L.c8_S :=
 fn_ok (sem := L.c8_N) (ss := L.c8_ss) (G := L.c8_G) (run_ok L.Γ_c8_ok L.Δ_c8_ok Tryz.func18 (ann := .leaf) (annOk_leaf _)) L.c8_imp
def L.Γ_b4 : Ctx := ctxC L.Γ_c8 18 L.c8_S
theorem L.Γ_b4_ok : SoundG L.pg L.Γ_b4 := ctxC_ok L.Γ_c8_ok L.c8_ok
def L.Δ_b4 : CtxO := L.Δ_c8
theorem L.Δ_b4_ok : SoundGO L.pg L.Δ_b4 := L.Δ_c8_ok
def L.b4_L1_b (index1 : Int) (v7 : (List Int)) (v8 v9 : Int) (self : Int -> Prop) (Kx0 : Prop) (Kr : Int -> Int -> Prop) : Prop :=
 (bif (decide (v9 < v8)) then (inB v9 v7.length) /\ L.c8 (v7.getD v9.toNat 0) (fun r => (bif (!r) then Kr 3 (i64 (index1 + v9)) else self (i64 (v9 + 1)))) else Kx0)
def L.b4_L1_R (index1 : Int) (v7 : (List Int)) (v8 : Int) : Nat -> Int -> (Prop) -> (Int -> Int -> Prop) -> Prop
 | 0, _, _, _ => False
 | fu + 1, v9, Kx0, Kr => L.b4_L1_b index1 v7 v8 v9 (fun v9 => L.b4_L1_R index1 v7 v8 fu v9 Kx0 Kr) Kx0 Kr
structure L.b4_L1 (index1 : Int) (v7 : (List Int)) (v8 v9 : Int) (Kx0 : Prop) (Kr : Int -> Int -> Prop) : Prop where
 out : ∃ fu, L.b4_L1_R index1 v7 v8 fu v9 Kx0 Kr
def L.b4_L1_d : LoopD := { base := 1, vecs := [], flds := [], keep := [0, 4, 7, 8, 9], out := [4], rets := [4], rv := [], rbase := 0 }
def L.b4_L1_ss : List Sh := [.int .i64, .cl 0 0, .ro (.int .i64), .int .i64, .int .i64]
def L.b4_L1_os : List OSh := [.cells [.int .i64, .int .i64]]
def L.b4_L1_G (vs : List V) (st : List Ob) (K : Ex -> St) : Prop := L.b4_L1 (gI (gA vs 0)) (gR (.int .i64) (gA vs 2)) (gI (gA vs 3)) (gI (gA vs 4)) (K (.exit 0) (bld [4] [.cl 0 0] 0 23) [.cells [.xi (cI st 0 0), .xi (cI st 0 1)]]) (fun q0_ q1_ => K .ret (bld [4] [.cl 0 0] 0 23) [.cells [.xi q0_, .xi q1_]])
def L.b4_L1_F (vs : List V) (st : List Ob) (K : Ex -> St) : Prop := fitF L.b4_L1_ss L.b4_L1_os vs st (L.b4_L1_G vs st K)
theorem L.b4_L1_eq (index1 : Int) (v7 : (List Int)) (v8 m0 m01 : Int) (K : Ex -> St) : ∀ (fu : Nat) (v9 : Int), L.b4_L1_R index1 v7 v8 fu v9 (K (.exit 0) (bld [4] [.cl 0 0] 0 23) [.cells [.xi m0, .xi m01]]) (fun q0_ q1_ => K .ret (bld [4] [.cl 0 0] 0 23) [.cells [.xi q0_, .xi q1_]]) = iterL (stepL (L.ex L.Γ_b4 L.Δ_b4 .leaf (sub [true, false, true, false, false] (codeOf Tryz.f34))) 1 L.b4_L1_d K) fu (bld L.b4_L1_d.keep [.xi index1, .cl 0 0, .ro (.int .i64) v7, .xi v8, .xi v9] 0 23) [.cells [.xi m0, .xi m01]] := by
 intro fu
 induction fu with
 | zero => intros; rfl
 | succ fu ih =>
  intro v9
  have e : (fun v9 => L.b4_L1_R index1 v7 v8 fu v9 (K (.exit 0) (bld [4] [.cl 0 0] 0 23) [.cells [.xi m0, .xi m01]]) (fun q0_ q1_ => K .ret (bld [4] [.cl 0 0] 0 23) [.cells [.xi q0_, .xi q1_]])) = fun v9 => iterL (stepL (L.ex L.Γ_b4 L.Δ_b4 .leaf (sub [true, false, true, false, false] (codeOf Tryz.f34))) 1 L.b4_L1_d K) fu (bld L.b4_L1_d.keep [.xi index1, .cl 0 0, .ro (.int .i64) v7, .xi v8, .xi v9] 0 23) [.cells [.xi m0, .xi m01]] := by
   funext v9; exact ih v9
  show L.b4_L1_b index1 v7 v8 v9 (fun v9 => L.b4_L1_R index1 v7 v8 fu v9 (K (.exit 0) (bld [4] [.cl 0 0] 0 23) [.cells [.xi m0, .xi m01]]) (fun q0_ q1_ => K .ret (bld [4] [.cl 0 0] 0 23) [.cells [.xi q0_, .xi q1_]])) (K (.exit 0) (bld [4] [.cl 0 0] 0 23) [.cells [.xi m0, .xi m01]]) (fun q0_ q1_ => K .ret (bld [4] [.cl 0 0] 0 23) [.cells [.xi q0_, .xi q1_]]) = _
  rw [e]
  kernel_rfl
theorem L.b4_L1_imp (vs : List V) (st : List Ob) (K : Ex -> St) (h : L.b4_L1_G vs st K) : ∃ fu, iterL (stepL (L.ex L.Γ_b4 L.Δ_b4 .leaf (sub [true, false, true, false, false] (codeOf Tryz.f34))) 1 L.b4_L1_d K) fu (bld L.b4_L1_d.keep (mkL L.b4_L1_ss 0 vs) 0 23) (mkOs L.b4_L1_os 0 st) :=
 exMap (fun fu h => @Eq.mp _ _ (Eq.trans (L.b4_L1_eq (gI (gA vs 0)) (gR (.int .i64) (gA vs 2)) (gI (gA vs 3)) (cI st 0 0) (cI st 0 1) K fu (gI (gA vs 4))) (by kernel_rfl)) h) (L.b4_L1.out h)
theorem L.b4_L1_ok : AnnOk L.pg (CC L.pg L.Γ_b4 L.Δ_b4) (drawD L.pg L.Γ_b4 L.Δ_b4) 0 (.lift L.b4_L1_d 23 L.b4_L1_F) (.loop (sub [true, false, true, false, false] (codeOf Tryz.f34))) :=
 lift_ok (an := .leaf) (ss := L.b4_L1_ss) (os := L.b4_L1_os) (G := L.b4_L1_G) rfl (Nat.le_of_ble_eq_true rfl) (annOk_leaf _) (L.b4_L1_imp)
def L.b4_B (index : Int) (l : (List Int)) (K : Int -> Int -> Prop) : Prop :=
 L.b4_L1 index l (l.length : Int) 0 (K 0 0) (fun m m1 => K m m1)
structure L.b4 (index : Int) (l : (List Int)) (K : Int -> Int -> Prop) : Prop where
 out : L.b4_B index l K
def L.b4_ss : List Sh := [.int .i64, .ro (.int .i64)]
def L.b4_G (vs : List V) (K : V -> List Ob -> Prop) : Prop := L.b4 (gI (gA vs 0)) (gR (.int .i64) (gA vs 1)) (fun r0 r1 => K (.agg [.xi r0, .xi r1]) [])
def L.b4_S : SemF := fun args K => argF L.b4_ss args fun a => L.b4_G a K
noncomputable abbrev L.b4_N : SemF := run L.pg L.Γ_b4 L.Δ_b4 (.node .leaf (.node (.node .leaf (.lift L.b4_L1_d 23 L.b4_L1_F)) .leaf)) .any Tryz.f34
theorem L.b4_eq (index : Int) (l : (List Int)) (K : V -> List Ob -> Prop) : L.b4_N [.xi index, .ro (.int .i64) l] K = L.b4_B index l (fun r0 r1 => K (.agg [.xi r0, .xi r1]) []) := by
 kernel_rfl
theorem L.b4_imp (vs : List V) (K : V -> List Ob -> Prop) : Imp (L.b4_G vs K) (L.b4_N (mkL L.b4_ss 0 vs) K) :=
 Imp.of (Eq.trans (b := L.b4_N [.xi (gI (gA vs 0)), .ro (.int .i64) (gR (.int .i64) (gA vs 1))] K) (by kernel_rfl) (L.b4_eq (gI (gA vs 0)) (gR (.int .i64) (gA vs 1)) K)) fun h => (L.b4.out h)
theorem L.b4_ok : SoundFn L.pg 34 L.b4_S :=
 fn_ok (sem := L.b4_N) (ss := L.b4_ss) (G := L.b4_G) (run_ok L.Γ_b4_ok L.Δ_b4_ok Tryz.func34 (ann := (.node .leaf (.node (.node .leaf (.lift L.b4_L1_d 23 L.b4_L1_F)) .leaf))) ⟨(annOk_leaf _), ⟨⟨(annOk_leaf _), L.b4_L1_ok⟩, (annOk_leaf _)⟩⟩) L.b4_imp
def L.Γ_d4 : Ctx := ctxC L.Γ_b4 34 L.b4_S
theorem L.Γ_d4_ok : SoundG L.pg L.Γ_d4 := ctxC_ok L.Γ_b4_ok L.b4_ok
def L.Δ_d4 : CtxO := L.Δ_b4
theorem L.Δ_d4_ok : SoundGO L.pg L.Δ_d4 := L.Δ_b4_ok
def L.d4_B (leaves_ : (List Int)) (K : Int -> Int -> Prop) : Prop :=
 (bif (decide ((leaves_.length : Int) > 64)) then K 2 (-1) else L.b4 0 leaves_ (fun rCode rIndex => K rCode rIndex))
structure L.d4 (leaves_ : (List Int)) (K : Int -> Int -> Prop) : Prop where
 out : L.d4_B leaves_ K
def L.d4_ss : List Sh := [.ro (.int .i64)]
def L.d4_G (vs : List V) (K : V -> List Ob -> Prop) : Prop := L.d4 (gR (.int .i64) (gA vs 0)) (fun r0 r1 => K (.agg [.xi r0, .xi r1]) [])
def L.d4_S : SemF := fun args K => argF L.d4_ss args fun a => L.d4_G a K
noncomputable abbrev L.d4_N : SemF := run L.pg L.Γ_d4 L.Δ_d4 .leaf .any Tryz.f16
theorem L.d4_eq (leaves_ : (List Int)) (K : V -> List Ob -> Prop) : L.d4_N [.ro (.int .i64) leaves_] K = L.d4_B leaves_ (fun r0 r1 => K (.agg [.xi r0, .xi r1]) []) := by
 kernel_rfl
theorem L.d4_imp (vs : List V) (K : V -> List Ob -> Prop) : Imp (L.d4_G vs K) (L.d4_N (mkL L.d4_ss 0 vs) K) :=
 Imp.of (Eq.trans (b := L.d4_N [.ro (.int .i64) (gR (.int .i64) (gA vs 0))] K) (by kernel_rfl) (L.d4_eq (gR (.int .i64) (gA vs 0)) K)) fun h => (L.d4.out h)
theorem L.d4_ok : SoundFn L.pg 16 L.d4_S :=
 fn_ok (sem := L.d4_N) (ss := L.d4_ss) (G := L.d4_G) (run_ok L.Γ_d4_ok L.Δ_d4_ok Tryz.func16 (ann := .leaf) (annOk_leaf _)) L.d4_imp
def L.Γ_a7 : Ctx := ctxC L.Γ_d4 16 L.d4_S
theorem L.Γ_a7_ok : SoundG L.pg L.Γ_a7 := ctxC_ok L.Γ_d4_ok L.d4_ok
def L.Δ_a7 : CtxO := L.Δ_d4
theorem L.Δ_a7_ok : SoundGO L.pg L.Δ_a7 := L.Δ_d4_ok
def L.a7_L1_b (n1 k : Int) (self Kx0 : Int -> Prop) : Prop :=
 (bif (decide ((i64 ((2 : Int) * k)) < n1)) then self (i64 (k * 2)) else Kx0 k)
def L.a7_L1_R (n1 : Int) : Nat -> Int -> (Int -> Prop) -> Prop
 | 0, _, _ => False
 | fu + 1, k, Kx0 => L.a7_L1_b n1 k (fun k => L.a7_L1_R n1 fu k Kx0) Kx0
structure L.a7_L1 (n1 k : Int) (Kx0 : Int -> Prop) : Prop where
 out : ∃ fu, L.a7_L1_R n1 fu k Kx0
def L.a7_L1_d : LoopD := { base := 0, vecs := [], flds := [], keep := [0, 3], out := [3], rets := [2], rv := [], rbase := 0 }
def L.a7_L1_ss : List Sh := [.int .i64, .int .i64]
def L.a7_L1_os : List OSh := []
def L.a7_L1_G (vs : List V) (st : List Ob) (K : Ex -> St) : Prop := L.a7_L1 (gI (gA vs 0)) (gI (gA vs 1)) (fun q0_ => K (.exit 0) (bld [3] [.xi q0_] 0 11) [])
def L.a7_L1_F (vs : List V) (st : List Ob) (K : Ex -> St) : Prop := fitF L.a7_L1_ss L.a7_L1_os vs st (L.a7_L1_G vs st K)
theorem L.a7_L1_eq (n1 : Int) (K : Ex -> St) : ∀ (fu : Nat) (k : Int), L.a7_L1_R n1 fu k (fun q0_ => K (.exit 0) (bld [3] [.xi q0_] 0 11) []) = iterL (stepL (L.ex L.Γ_a7 L.Δ_a7 .leaf (sub [true, true, false, false, false] (codeOf Tryz.f35))) 0 L.a7_L1_d K) fu (bld L.a7_L1_d.keep [.xi n1, .xi k] 0 11) [] := by
 intro fu
 induction fu with
 | zero => intros; rfl
 | succ fu ih =>
  intro k
  have e : (fun k => L.a7_L1_R n1 fu k (fun q0_ => K (.exit 0) (bld [3] [.xi q0_] 0 11) [])) = fun k => iterL (stepL (L.ex L.Γ_a7 L.Δ_a7 .leaf (sub [true, true, false, false, false] (codeOf Tryz.f35))) 0 L.a7_L1_d K) fu (bld L.a7_L1_d.keep [.xi n1, .xi k] 0 11) [] := by
   funext k; exact ih k
  show L.a7_L1_b n1 k (fun k => L.a7_L1_R n1 fu k (fun q0_ => K (.exit 0) (bld [3] [.xi q0_] 0 11) [])) (fun q0_ => K (.exit 0) (bld [3] [.xi q0_] 0 11) []) = _
  rw [e]
  kernel_rfl
theorem L.a7_L1_imp (vs : List V) (st : List Ob) (K : Ex -> St) (h : L.a7_L1_G vs st K) : ∃ fu, iterL (stepL (L.ex L.Γ_a7 L.Δ_a7 .leaf (sub [true, true, false, false, false] (codeOf Tryz.f35))) 0 L.a7_L1_d K) fu (bld L.a7_L1_d.keep (mkL L.a7_L1_ss 0 vs) 0 11) (mkOs L.a7_L1_os 0 st) :=
 exMap (fun fu h => @Eq.mp _ _ (Eq.trans (L.a7_L1_eq (gI (gA vs 0)) K fu (gI (gA vs 1))) (by kernel_rfl)) h) (L.a7_L1.out h)
theorem L.a7_L1_ok : AnnOk L.pg (CC L.pg L.Γ_a7 L.Δ_a7) (drawD L.pg L.Γ_a7 L.Δ_a7) 0 (.lift L.a7_L1_d 11 L.a7_L1_F) (.loop (sub [true, true, false, false, false] (codeOf Tryz.f35))) :=
 lift_ok (an := .leaf) (ss := L.a7_L1_ss) (os := L.a7_L1_os) (G := L.a7_L1_G) rfl (Nat.le_of_ble_eq_true rfl) (annOk_leaf _) (L.a7_L1_imp)
def L.a7_B (n : Int) (K : Int -> Prop) : Prop :=
 L.a7_L1 n 1 (fun k => K k)
structure L.a7 (n : Int) (K : Int -> Prop) : Prop where
 out : L.a7_B n K
def L.a7_ss : List Sh := [.int .i64]
def L.a7_G (vs : List V) (K : V -> List Ob -> Prop) : Prop := L.a7 (gI (gA vs 0)) (fun r0 => K (.xi r0) [])
def L.a7_S : SemF := fun args K => argF L.a7_ss args fun a => L.a7_G a K
noncomputable abbrev L.a7_N : SemF := run L.pg L.Γ_a7 L.Δ_a7 (.node .leaf (.node .leaf (.node (.lift L.a7_L1_d 11 L.a7_L1_F) .leaf))) .any Tryz.f35
theorem L.a7_eq (n : Int) (K : V -> List Ob -> Prop) : L.a7_N [.xi n] K = L.a7_B n (fun r0 => K (.xi r0) []) := by
 kernel_rfl
theorem L.a7_imp (vs : List V) (K : V -> List Ob -> Prop) : Imp (L.a7_G vs K) (L.a7_N (mkL L.a7_ss 0 vs) K) :=
 Imp.of (Eq.trans (b := L.a7_N [.xi (gI (gA vs 0))] K) (by kernel_rfl) (L.a7_eq (gI (gA vs 0)) K)) fun h => (L.a7.out h)
theorem L.a7_ok : SoundFn L.pg 35 L.a7_S :=
 fn_ok (sem := L.a7_N) (ss := L.a7_ss) (G := L.a7_G) (run_ok L.Γ_a7_ok L.Δ_a7_ok Tryz.func35 (ann := (.node .leaf (.node .leaf (.node (.lift L.a7_L1_d 11 L.a7_L1_F) .leaf)))) ⟨(annOk_leaf _), ⟨(annOk_leaf _), ⟨L.a7_L1_ok, (annOk_leaf _)⟩⟩⟩) L.a7_imp
def L.Γ_c9 : Ctx := ctxC L.Γ_a7 35 L.a7_S
theorem L.Γ_c9_ok : SoundG L.pg L.Γ_c9 := ctxC_ok L.Γ_a7_ok L.a7_ok
def L.Δ_c9 : CtxO := L.Δ_a7
theorem L.Δ_c9_ok : SoundGO L.pg L.Δ_c9 := L.Δ_a7_ok
def L.c9_B (a b : Int) (K : Int -> Prop) : Prop :=
 L.a5 a b (fun r rCode rIndex => K r)
structure L.c9 (a b : Int) (K : Int -> Prop) : Prop where
 out : L.c9_B a b K
def L.c9_ss : List Sh := [.int .i64, .int .i64]
def L.c9_G (vs : List V) (K : V -> List Ob -> Prop) : Prop := L.c9 (gI (gA vs 0)) (gI (gA vs 1)) (fun r0 => K (.xi r0) [])
def L.c9_S : SemF := fun args K => argF L.c9_ss args fun a => L.c9_G a K
noncomputable abbrev L.c9_N : SemF := run L.pg L.Γ_c9 L.Δ_c9 .leaf .any Tryz.f37
theorem L.c9_eq (a b : Int) (K : V -> List Ob -> Prop) : L.c9_N [.xi a, .xi b] K = L.c9_B a b (fun r0 => K (.xi r0) []) := by
 kernel_rfl
theorem L.c9_imp (vs : List V) (K : V -> List Ob -> Prop) : Imp (L.c9_G vs K) (L.c9_N (mkL L.c9_ss 0 vs) K) :=
 Imp.of (Eq.trans (b := L.c9_N [.xi (gI (gA vs 0)), .xi (gI (gA vs 1))] K) (by kernel_rfl) (L.c9_eq (gI (gA vs 0)) (gI (gA vs 1)) K)) fun h => (L.c9.out h)
theorem L.c9_ok : SoundFn L.pg 37 L.c9_S :=
 fn_ok (sem := L.c9_N) (ss := L.c9_ss) (G := L.c9_G) (run_ok L.Γ_c9_ok L.Δ_c9_ok Tryz.func37 (ann := .leaf) (annOk_leaf _)) L.c9_imp
def L.Γ_c1 : Ctx := ctxC L.Γ_c9 37 L.c9_S
theorem L.Γ_c1_ok : SoundG L.pg L.Γ_c1 := ctxC_ok L.Γ_c9_ok L.c9_ok
def L.Δ_c1 : CtxO := L.Δ_c9
theorem L.Δ_c1_ok : SoundGO L.pg L.Δ_c1 := L.Δ_c9_ok
def L.c1_B (leaves_ : (List Int)) (rc : (List Int) -> (Int -> Prop) -> Prop) (K : Int -> Prop) : Prop :=
 (bif ((leaves_.length : Int) == 0) then K 0 else (bif ((leaves_.length : Int) == 1) then (inB 0 leaves_.length) /\ K (leaves_.getD ((0 : Int).toNat) 0) else L.a7 (leaves_.length : Int) (fun r => (0 <= r /\ r <= leaves_.length) /\ rc (leaves_.take r.toNat) (fun r1 => (0 <= r /\ r <= leaves_.length) /\ rc (leaves_.drop r.toNat) (fun r2 => L.c9 r1 r2 (fun r3 => K r3))))))
def L.c1_R : Nat -> (List Int) -> (Int -> Prop) -> Prop
 | 0, _, _ => False
 | fu + 1, leaves_, K => L.c1_B leaves_ (L.c1_R fu) K
structure L.c1 (leaves_ : (List Int)) (K : Int -> Prop) : Prop where
 out : ∃ fu, L.c1_R fu leaves_ K
def L.c1_ss : List Sh := [.ro (.int .i64)]
def L.c1_G (vs : List V) (K : V -> List Ob -> Prop) : Prop := L.c1 (gR (.int .i64) (gA vs 0)) (fun r0 => K (.xi r0) [])
def L.c1_S : SemF := fun args K => argF L.c1_ss args fun a => L.c1_G a K
def L.c1_GR (fu_ : Nat) (vs : List V) (K : V -> List Ob -> Prop) : Prop := L.c1_R fu_ (gR (.int .i64) (gA vs 0)) (fun r0 => K (.xi r0) [])
def L.c1_SR (fu_ : Nat) : SemF := fun args K => argF L.c1_ss args fun a => L.c1_GR fu_ a K
def L.ΓR_translog_root (fu_ : Nat) : Ctx := ctxC L.Γ_c1 33 (L.c1_SR fu_)
theorem L.c1_eq (fu_ : Nat) (leaves_ : (List Int)) (K : V -> List Ob -> Prop) : run L.pg (L.ΓR_translog_root fu_) L.Δ_c1 .leaf .any Tryz.f33 [.ro (.int .i64) leaves_] K = L.c1_B leaves_ (L.c1_R fu_) (fun r0 => K (.xi r0) []) := by
 kernel_rfl
theorem L.c1_imp (fu_ : Nat) (vs : List V) (K : V -> List Ob -> Prop) : Imp (L.c1_GR (fu_ + 1) vs K) (run L.pg (L.ΓR_translog_root fu_) L.Δ_c1 .leaf .any Tryz.f33 (mkL L.c1_ss 0 vs) K) :=
 Imp.of (Eq.trans (b := run L.pg (L.ΓR_translog_root fu_) L.Δ_c1 .leaf .any Tryz.f33 [.ro (.int .i64) (gR (.int .i64) (gA vs 0))] K) (by kernel_rfl) (L.c1_eq fu_ (gR (.int .i64) (gA vs 0)) K)) fun h => h
theorem L.c1_okR : ∀ fu_, SoundFn L.pg 33 (L.c1_SR fu_)
 | 0 => fn_none fun _ _ h => h
 | fu_ + 1 => fn_ok (sem := run L.pg (L.ΓR_translog_root fu_) L.Δ_c1 .leaf .any Tryz.f33) (ss := L.c1_ss) (G := L.c1_GR (fu_ + 1)) (run_ok (ctxC_ok L.Γ_c1_ok (L.c1_okR fu_)) L.Δ_c1_ok Tryz.func33 (ann := .leaf) (annOk_leaf _)) (L.c1_imp fu_)
theorem L.c1_ok : SoundFn L.pg 33 L.c1_S :=
 fn_ex (GR := L.c1_GR) (G := L.c1_G) L.c1_okR fun _ _ h => h.out
def L.Γ_e1 : Ctx := ctxC L.Γ_c1 33 L.c1_S
theorem L.Γ_e1_ok : SoundG L.pg L.Γ_e1 := ctxC_ok L.Γ_c1_ok L.c1_ok
def L.Δ_e1 : CtxO := L.Δ_c1
theorem L.Δ_e1_ok : SoundGO L.pg L.Δ_e1 := L.Δ_c1_ok
def L.e1_B (leaves_ : (List Int)) (K : Int -> Int -> Int -> Prop) : Prop :=
 L.d4 leaves_ (fun rCode rIndex => (bif (!((rCode == 0) && ((rIndex == 0) && true))) then K 0 rCode rIndex else L.c1 leaves_ (fun r => K r 0 0)))
structure L.e1 (leaves_ : (List Int)) (K : Int -> Int -> Int -> Prop) : Prop where
 out : L.e1_B leaves_ K
def L.e1_ss : List Sh := [.ro (.int .i64)]
def L.e1_G (vs : List V) (K : V -> List Ob -> Prop) : Prop := L.e1 (gR (.int .i64) (gA vs 0)) (fun r0 r1 r2 => K (.tup [.xi r0, .agg [.xi r1, .xi r2]]) [])
def L.e1_S : SemF := fun args K => argF L.e1_ss args fun a => L.e1_G a K
noncomputable abbrev L.e1_N : SemF := run L.pg L.Γ_e1 L.Δ_e1 .leaf .any Tryz.f14
theorem L.e1_eq (leaves_ : (List Int)) (K : V -> List Ob -> Prop) : L.e1_N [.ro (.int .i64) leaves_] K = L.e1_B leaves_ (fun r0 r1 r2 => K (.tup [.xi r0, .agg [.xi r1, .xi r2]]) []) := by
 kernel_rfl
theorem L.e1_imp (vs : List V) (K : V -> List Ob -> Prop) : Imp (L.e1_G vs K) (L.e1_N (mkL L.e1_ss 0 vs) K) :=
 Imp.of (Eq.trans (b := L.e1_N [.ro (.int .i64) (gR (.int .i64) (gA vs 0))] K) (by kernel_rfl) (L.e1_eq (gR (.int .i64) (gA vs 0)) K)) fun h => (L.e1.out h)
theorem L.e1_ok : SoundFn L.pg 14 L.e1_S :=
 fn_ok (sem := L.e1_N) (ss := L.e1_ss) (G := L.e1_G) (run_ok L.Γ_e1_ok L.Δ_e1_ok Tryz.func14 (ann := .leaf) (annOk_leaf _)) L.e1_imp
def L.Γ_c6 : Ctx := ctxC L.Γ_e1 14 L.e1_S
theorem L.Γ_c6_ok : SoundG L.pg L.Γ_c6 := ctxC_ok L.Γ_e1_ok L.e1_ok
def L.Δ_c6 : CtxO := L.Δ_e1
theorem L.Δ_c6_ok : SoundGO L.pg L.Δ_c6 := L.Δ_e1_ok
def L.c6_B (log : (List (Int × L.ya))) (K : Int -> Int -> Int -> Prop) : Prop :=
 L.a0 log (fun rCode rIndex => (bif (!((rCode == 0) && ((rIndex == 0) && true))) then K 0 rCode rIndex else L.b5 log (fun r => L.e1 r (fun r1 rCode1 rIndex1 => K r1 rCode1 rIndex1))))
structure L.c6 (log : (List (Int × L.ya))) (K : Int -> Int -> Int -> Prop) : Prop where
 out : L.c6_B log K
def L.c6_ss : List Sh := [.ro L.T1]
def L.c6_G (vs : List V) (K : V -> List Ob -> Prop) : Prop := L.c6 (gR L.T1 (gA vs 0)) (fun r0 r1 r2 => K (.tup [.xi r0, .agg [.xi r1, .xi r2]]) [])
def L.c6_S : SemF := fun args K => argF L.c6_ss args fun a => L.c6_G a K
noncomputable abbrev L.c6_N : SemF := run L.pg L.Γ_c6 L.Δ_c6 .leaf .any Tryz.f5
theorem L.c6_eq (log : (List (Int × L.ya))) (K : V -> List Ob -> Prop) : L.c6_N [.ro L.T1 log] K = L.c6_B log (fun r0 r1 r2 => K (.tup [.xi r0, .agg [.xi r1, .xi r2]]) []) := by
 kernel_rfl
theorem L.c6_imp (vs : List V) (K : V -> List Ob -> Prop) : Imp (L.c6_G vs K) (L.c6_N (mkL L.c6_ss 0 vs) K) :=
 Imp.of (Eq.trans (b := L.c6_N [.ro L.T1 (gR L.T1 (gA vs 0))] K) (by kernel_rfl) (L.c6_eq (gR L.T1 (gA vs 0)) K)) fun h => (L.c6.out h)
theorem L.c6_ok : SoundFn L.pg 5 L.c6_S :=
 fn_ok (sem := L.c6_N) (ss := L.c6_ss) (G := L.c6_G) (run_ok L.Γ_c6_ok L.Δ_c6_ok Tryz.func5 (ann := .leaf) (annOk_leaf _)) L.c6_imp
def L.Γ_c2 : Ctx := ctxC L.Γ_c6 5 L.c6_S
theorem L.Γ_c2_ok : SoundG L.pg L.Γ_c2 := ctxC_ok L.Γ_c6_ok L.c6_ok
def L.Δ_c2 : CtxO := L.Δ_c6
theorem L.Δ_c2_ok : SoundGO L.pg L.Δ_c2 := L.Δ_c6_ok
def L.c2_B (leaves_ : (List Int)) (m : Int) (known : Bool) (rc : (List Int) -> Int -> Bool -> ((List Int) -> Prop) -> Prop) (K : (List Int) -> Prop) : Prop :=
 (bif (m == (leaves_.length : Int)) then (bif known then K ([] : List Int) else L.c1 leaves_ (fun r => K ([r] : List Int))) else L.a7 (leaves_.length : Int) (fun r1 => (bif (decide (m <= r1)) then (0 <= r1 /\ r1 <= leaves_.length) /\ rc (leaves_.take r1.toNat) m known (fun r2 => (0 <= r1 /\ r1 <= leaves_.length) /\ L.c1 (leaves_.drop r1.toNat) (fun r3 => (fits (r2.length + ([r3] : List Int).length)) /\ K (r2 ++ ([r3] : List Int)))) else (0 <= r1 /\ r1 <= leaves_.length) /\ rc (leaves_.drop r1.toNat) (i64 (m - r1)) false (fun r4 => (0 <= r1 /\ r1 <= leaves_.length) /\ L.c1 (leaves_.take r1.toNat) (fun r5 => (fits (r4.length + ([r5] : List Int).length)) /\ K (r4 ++ ([r5] : List Int)))))))
def L.c2_R : Nat -> (List Int) -> Int -> Bool -> ((List Int) -> Prop) -> Prop
 | 0, _, _, _, _ => False
 | fu + 1, leaves_, m, known, K => L.c2_B leaves_ m known (L.c2_R fu) K
structure L.c2 (leaves_ : (List Int)) (m : Int) (known : Bool) (K : (List Int) -> Prop) : Prop where
 out : ∃ fu, L.c2_R fu leaves_ m known K
def L.c2_ss : List Sh := [.ro (.int .i64), .int .i64, .bool]
def L.c2_G (vs : List V) (K : V -> List Ob -> Prop) : Prop := L.c2 (gR (.int .i64) (gA vs 0)) (gI (gA vs 1)) (gB (gA vs 2)) (fun r0 => K (.vec 0) [.vec (.int .i64) 0 r0])
def L.c2_S : SemF := fun args K => argF L.c2_ss args fun a => L.c2_G a K
def L.c2_GR (fu_ : Nat) (vs : List V) (K : V -> List Ob -> Prop) : Prop := L.c2_R fu_ (gR (.int .i64) (gA vs 0)) (gI (gA vs 1)) (gB (gA vs 2)) (fun r0 => K (.vec 0) [.vec (.int .i64) 0 r0])
def L.c2_SR (fu_ : Nat) : SemF := fun args K => argF L.c2_ss args fun a => L.c2_GR fu_ a K
def L.ΓR_translog_consistency (fu_ : Nat) : Ctx := ctxC L.Γ_c2 17 (L.c2_SR fu_)
theorem L.c2_eq (fu_ : Nat) (leaves_ : (List Int)) (m : Int) (known : Bool) (K : V -> List Ob -> Prop) : run L.pg (L.ΓR_translog_consistency fu_) L.Δ_c2 .leaf (.sl (.int .i64)) Tryz.f17 [.ro (.int .i64) leaves_, .xi m, .x (.bool known)] K = L.c2_B leaves_ m known (L.c2_R fu_) (fun r0 => K (.vec 0) [.vec (.int .i64) 0 r0]) := by
 kernel_rfl
theorem L.c2_imp (fu_ : Nat) (vs : List V) (K : V -> List Ob -> Prop) : Imp (L.c2_GR (fu_ + 1) vs K) (run L.pg (L.ΓR_translog_consistency fu_) L.Δ_c2 .leaf (.sl (.int .i64)) Tryz.f17 (mkL L.c2_ss 0 vs) K) :=
 Imp.of (Eq.trans (b := run L.pg (L.ΓR_translog_consistency fu_) L.Δ_c2 .leaf (.sl (.int .i64)) Tryz.f17 [.ro (.int .i64) (gR (.int .i64) (gA vs 0)), .xi (gI (gA vs 1)), .x (.bool (gB (gA vs 2)))] K) (by kernel_rfl) (L.c2_eq fu_ (gR (.int .i64) (gA vs 0)) (gI (gA vs 1)) (gB (gA vs 2)) K)) fun h => h
theorem L.c2_okR : ∀ fu_, SoundFn L.pg 17 (L.c2_SR fu_)
 | 0 => fn_none fun _ _ h => h
 | fu_ + 1 => fn_ok (sem := run L.pg (L.ΓR_translog_consistency fu_) L.Δ_c2 .leaf (.sl (.int .i64)) Tryz.f17) (ss := L.c2_ss) (G := L.c2_GR (fu_ + 1)) (run_ok (ctxC_ok L.Γ_c2_ok (L.c2_okR fu_)) L.Δ_c2_ok Tryz.func17 (ann := .leaf) (annOk_leaf _)) (L.c2_imp fu_)
theorem L.c2_ok : SoundFn L.pg 17 L.c2_S :=
 fn_ex (GR := L.c2_GR) (G := L.c2_G) L.c2_okR fun _ _ h => h.out
end Go.Proofs.YtnpjonhoihbaeaaGreat
set_option maxRecDepth 100000
namespace Go.Proofs.YtnpjonhoihbaeaaGreat
open Eng
def L.Γ_d0 : Ctx := ctxC L.Γ_c2 17 L.c2_S
theorem L.Γ_d0_ok : SoundG L.pg L.Γ_d0 := ctxC_ok L.Γ_c2_ok L.c2_ok
def L.Δ_d0 : CtxO := L.Δ_c2
theorem L.Δ_d0_ok : SoundGO L.pg L.Δ_d0 := L.Δ_c2_ok
def L.d0_B (leaves_ : (List Int)) (m : Int) (K : (List Int) -> Int -> Int -> Prop) : Prop :=
 L.d4 leaves_ (fun rCode rIndex => (bif (!((rCode == 0) && ((rIndex == 0) && true))) then K ([] : List Int) rCode rIndex else (bif (bif (decide (m < 1)) then true else (decide (m > (leaves_.length : Int)))) then K ([] : List Int) 3 (-1) else L.c2 leaves_ m true (fun r => K r 0 0))))
structure L.d0 (leaves_ : (List Int)) (m : Int) (K : (List Int) -> Int -> Int -> Prop) : Prop where
 out : L.d0_B leaves_ m K
def L.d0_ss : List Sh := [.ro (.int .i64), .int .i64]
def L.d0_G (vs : List V) (K : V -> List Ob -> Prop) : Prop := L.d0 (gR (.int .i64) (gA vs 0)) (gI (gA vs 1)) (fun r0 r1 r2 => K (.tup [.vec 0, .agg [.xi r1, .xi r2]]) [.vec (.int .i64) 0 r0])
def L.d0_S : SemF := fun args K => argF L.d0_ss args fun a => L.d0_G a K
noncomputable abbrev L.d0_N : SemF := run L.pg L.Γ_d0 L.Δ_d0 .leaf (.tup [.sl (.int .i64), .any]) Tryz.f6
theorem L.d0_eq (leaves_ : (List Int)) (m : Int) (K : V -> List Ob -> Prop) : L.d0_N [.ro (.int .i64) leaves_, .xi m] K = L.d0_B leaves_ m (fun r0 r1 r2 => K (.tup [.vec 0, .agg [.xi r1, .xi r2]]) [.vec (.int .i64) 0 r0]) := by
 kernel_rfl
theorem L.d0_imp (vs : List V) (K : V -> List Ob -> Prop) : Imp (L.d0_G vs K) (L.d0_N (mkL L.d0_ss 0 vs) K) :=
 Imp.of (Eq.trans (b := L.d0_N [.ro (.int .i64) (gR (.int .i64) (gA vs 0)), .xi (gI (gA vs 1))] K) (by kernel_rfl) (L.d0_eq (gR (.int .i64) (gA vs 0)) (gI (gA vs 1)) K)) fun h => (L.d0.out h)
theorem L.d0_ok : SoundFn L.pg 6 L.d0_S :=
 fn_ok (sem := L.d0_N) (ss := L.d0_ss) (G := L.d0_G) (run_ok L.Γ_d0_ok L.Δ_d0_ok Tryz.func6 (ann := .leaf) (annOk_leaf _)) L.d0_imp
def L.Γ_d8 : Ctx := ctxC L.Γ_d0 6 L.d0_S
theorem L.Γ_d8_ok : SoundG L.pg L.Γ_d8 := ctxC_ok L.Γ_d0_ok L.d0_ok
def L.Δ_d8 : CtxO := L.Δ_d0
theorem L.Δ_d8_ok : SoundGO L.pg L.Δ_d8 := L.Δ_d0_ok
def L.d8_B (proof : (List Int)) (K : Int -> Int -> Prop) : Prop :=
 (bif (decide ((proof.length : Int) > 64)) then K 2 (-1) else L.b4 4 proof (fun rCode rIndex => K rCode rIndex))
structure L.d8 (proof : (List Int)) (K : Int -> Int -> Prop) : Prop where
 out : L.d8_B proof K
def L.d8_ss : List Sh := [.ro (.int .i64)]
def L.d8_G (vs : List V) (K : V -> List Ob -> Prop) : Prop := L.d8 (gR (.int .i64) (gA vs 0)) (fun r0 r1 => K (.agg [.xi r0, .xi r1]) [])
def L.d8_S : SemF := fun args K => argF L.d8_ss args fun a => L.d8_G a K
noncomputable abbrev L.d8_N : SemF := run L.pg L.Γ_d8 L.Δ_d8 .leaf .any Tryz.f19
theorem L.d8_eq (proof : (List Int)) (K : V -> List Ob -> Prop) : L.d8_N [.ro (.int .i64) proof] K = L.d8_B proof (fun r0 r1 => K (.agg [.xi r0, .xi r1]) []) := by
 kernel_rfl
theorem L.d8_imp (vs : List V) (K : V -> List Ob -> Prop) : Imp (L.d8_G vs K) (L.d8_N (mkL L.d8_ss 0 vs) K) :=
 Imp.of (Eq.trans (b := L.d8_N [.ro (.int .i64) (gR (.int .i64) (gA vs 0))] K) (by kernel_rfl) (L.d8_eq (gR (.int .i64) (gA vs 0)) K)) fun h => (L.d8.out h)
theorem L.d8_ok : SoundFn L.pg 19 L.d8_S :=
 fn_ok (sem := L.d8_N) (ss := L.d8_ss) (G := L.d8_G) (run_ok L.Γ_d8_ok L.Δ_d8_ok Tryz.func19 (ann := .leaf) (annOk_leaf _)) L.d8_imp
def L.Γ_c3 : Ctx := ctxC L.Γ_d8 19 L.d8_S
theorem L.Γ_c3_ok : SoundG L.pg L.Γ_c3 := ctxC_ok L.Γ_d8_ok L.d8_ok
def L.Δ_c3 : CtxO := L.Δ_d8
theorem L.Δ_c3_ok : SoundGO L.pg L.Δ_c3 := L.Δ_d8_ok
def L.c3_B (r : (List Int)) (r1 : Bool) (K : Int -> (List Int) -> Bool -> Prop) : Prop :=
 (bif ((r.length : Int) == 0) then K 0 r true else (inB 0 r.length) /\ (0 <= (1 : Int) /\ (1 : Int) <= r.length) /\ K (r.getD ((0 : Int).toNat) 0) (r.drop (1 : Int).toNat) r1)
structure L.c3 (r : (List Int)) (r1 : Bool) (K : Int -> (List Int) -> Bool -> Prop) : Prop where
 out : L.c3_B r r1 K
def L.c3_ss : List Sh := [.cl 0 0]
def L.c3_os : List OSh := [.cells [.ro (.int .i64), .bool]]
def L.c3_G (vs : List V) (st : List Ob) (K : V -> List Ob -> Prop) : Prop := L.c3 (gR (.int .i64) ((oC (gD st 0)).getD 0 .any)) (gB ((oC (gD st 0)).getD 1 .any)) (fun r0 r1 r2 => K (.xi r0) [.cells [.ro (.int .i64) r1, .x (.bool r2)]])
def L.c3_S : SemO := fun args st K => argO L.c3_ss L.c3_os args st fun a s => L.c3_G a s K
theorem L.c3_eq (r : (List Int)) (r1 : Bool) (K : V -> List Ob -> Prop) : runH L.pg L.Γ_c3 L.Δ_c3 .leaf .any [] Tryz.f36 false 1 [.cl 0 0] [.cells [.ro (.int .i64) r, .x (.bool r1)]] K = L.c3_B r r1 (fun r0 r1 r2 => K (.xi r0) [.cells [.ro (.int .i64) r1, .x (.bool r2)]]) := by
 kernel_rfl
theorem L.c3_imp (vs : List V) (st : List Ob) (K : V -> List Ob -> Prop) : Imp (L.c3_G vs st K) (runH L.pg L.Γ_c3 L.Δ_c3 .leaf .any [] Tryz.f36 false 1 (mkL L.c3_ss 0 vs) (mkOs L.c3_os 0 st) K) :=
 Imp.of (Eq.trans (b := runH L.pg L.Γ_c3 L.Δ_c3 .leaf .any [] Tryz.f36 false 1 [.cl 0 0] [.cells [.ro (.int .i64) (gR (.int .i64) ((oC (gD st 0)).getD 0 .any)), .x (.bool (gB ((oC (gD st 0)).getD 1 .any)))]] K) (by kernel_rfl) (L.c3_eq (gR (.int .i64) ((oC (gD st 0)).getD 0 .any)) (gB ((oC (gD st 0)).getD 1 .any)) K)) fun h => (L.c3.out h)
theorem L.c3_ok : SoundO L.pg 36 L.c3_S :=
 fnO_ok (sem := runH L.pg L.Γ_c3 L.Δ_c3 .leaf .any [] Tryz.f36 false 1) (ss := L.c3_ss) (os := L.c3_os) (G := L.c3_G) (runH_ok L.Γ_c3_ok L.Δ_c3_ok Tryz.func36 (ann := .leaf) rfl (annOk_leaf _)) L.c3_imp
def L.Γ_c0 : Ctx := L.Γ_c3
theorem L.Γ_c0_ok : SoundG L.pg L.Γ_c0 := L.Γ_c3_ok
def L.Δ_c0 : CtxO := ctxE L.Δ_c3 36 [.any] L.c3_ss L.c3_os L.c3_G
theorem L.Δ_c0_ok : SoundGO L.pg L.Δ_c0 := ctxE_ok L.Δ_c3_ok L.c3_ok
def L.c0_B (n m old : Int) (known : Bool) (r : (List Int)) (r1 : Bool) (rc : Int -> Int -> Int -> Bool -> (List Int) -> Bool -> (Int -> Int -> (List Int) -> Bool -> Prop) -> Prop) (K : Int -> Int -> (List Int) -> Bool -> Prop) : Prop :=
 (bif (m == n) then (bif (!known) then L.c3 r r1 (fun r2 r3 r4 => K r2 r2 r3 r4) else K old old r r1) else L.a7 n (fun r5 => (bif (decide (m <= r5)) then rc r5 m old known r r1 (fun r6 r7 r8 r9 => L.c3 r8 r9 (fun r10 r11 r12 => L.c9 r7 r10 (fun r13 => K r6 r13 r11 r12))) else rc (i64 (n - r5)) (i64 (m - r5)) old false r r1 (fun r14 r15 r16 r17 => L.c3 r16 r17 (fun r18 r19 r20 => L.c9 r18 r14 (fun r21 => L.c9 r18 r15 (fun r22 => K r21 r22 r19 r20)))))))
def L.c0_R : Nat -> Int -> Int -> Int -> Bool -> (List Int) -> Bool -> (Int -> Int -> (List Int) -> Bool -> Prop) -> Prop
 | 0, _, _, _, _, _, _, _ => False
 | fu + 1, n, m, old, known, r, r1, K => L.c0_B n m old known r r1 (L.c0_R fu) K
structure L.c0 (n m old : Int) (known : Bool) (r : (List Int)) (r1 : Bool) (K : Int -> Int -> (List Int) -> Bool -> Prop) : Prop where
 out : ∃ fu, L.c0_R fu n m old known r r1 K
def L.c0_ss : List Sh := [.cl 0 0, .int .i64, .int .i64, .int .i64, .bool]
def L.c0_os : List OSh := [.cells [.ro (.int .i64), .bool]]
def L.c0_G (vs : List V) (st : List Ob) (K : V -> List Ob -> Prop) : Prop := L.c0 (gI (gA vs 1)) (gI (gA vs 2)) (gI (gA vs 3)) (gB (gA vs 4)) (gR (.int .i64) ((oC (gD st 0)).getD 0 .any)) (gB ((oC (gD st 0)).getD 1 .any)) (fun r0 r1 r2 r3 => K (.tup [.xi r0, .xi r1]) [.cells [.ro (.int .i64) r2, .x (.bool r3)]])
def L.c0_S : SemO := fun args st K => argO L.c0_ss L.c0_os args st fun a s => L.c0_G a s K
def L.c0_GR (fu_ : Nat) (vs : List V) (st : List Ob) (K : V -> List Ob -> Prop) : Prop := L.c0_R fu_ (gI (gA vs 1)) (gI (gA vs 2)) (gI (gA vs 3)) (gB (gA vs 4)) (gR (.int .i64) ((oC (gD st 0)).getD 0 .any)) (gB ((oC (gD st 0)).getD 1 .any)) (fun r0 r1 r2 r3 => K (.tup [.xi r0, .xi r1]) [.cells [.ro (.int .i64) r2, .x (.bool r3)]])
def L.c0_SR (fu_ : Nat) : SemO := fun args st K => argO L.c0_ss L.c0_os args st fun a s => L.c0_GR fu_ a s K
def L.ΔR_translog_reader_continued_h8 (fu_ : Nat) : CtxO := ctxE L.Δ_c0 20 [.any, .any, .any, .any, .any] L.c0_ss L.c0_os (L.c0_GR fu_)
theorem L.c0_eq (fu_ : Nat) (n m old : Int) (known : Bool) (r : (List Int)) (r1 : Bool) (K : V -> List Ob -> Prop) : runH L.pg L.Γ_c0 (L.ΔR_translog_reader_continued_h8 fu_) .leaf (.tup [.any, .any]) [] Tryz.f20 false 1 [.cl 0 0, .xi n, .xi m, .xi old, .x (.bool known)] [.cells [.ro (.int .i64) r, .x (.bool r1)]] K = L.c0_B n m old known r r1 (L.c0_R fu_) (fun r0 r1 r2 r3 => K (.tup [.xi r0, .xi r1]) [.cells [.ro (.int .i64) r2, .x (.bool r3)]]) := by
 kernel_rfl
theorem L.c0_imp (fu_ : Nat) (vs : List V) (st : List Ob) (K : V -> List Ob -> Prop) : Imp (L.c0_GR (fu_ + 1) vs st K) (runH L.pg L.Γ_c0 (L.ΔR_translog_reader_continued_h8 fu_) .leaf (.tup [.any, .any]) [] Tryz.f20 false 1 (mkL L.c0_ss 0 vs) (mkOs L.c0_os 0 st) K) :=
 Imp.of (Eq.trans (b := runH L.pg L.Γ_c0 (L.ΔR_translog_reader_continued_h8 fu_) .leaf (.tup [.any, .any]) [] Tryz.f20 false 1 [.cl 0 0, .xi (gI (gA vs 1)), .xi (gI (gA vs 2)), .xi (gI (gA vs 3)), .x (.bool (gB (gA vs 4)))] [.cells [.ro (.int .i64) (gR (.int .i64) ((oC (gD st 0)).getD 0 .any)), .x (.bool (gB ((oC (gD st 0)).getD 1 .any)))]] K) (by kernel_rfl) (L.c0_eq fu_ (gI (gA vs 1)) (gI (gA vs 2)) (gI (gA vs 3)) (gB (gA vs 4)) (gR (.int .i64) ((oC (gD st 0)).getD 0 .any)) (gB ((oC (gD st 0)).getD 1 .any)) K)) fun h => h
theorem L.c0_okR : ∀ fu_, SoundO L.pg 20 (L.c0_SR fu_)
 | 0 => fnO_none fun _ _ _ h => h
 | fu_ + 1 => fnO_ok (sem := runH L.pg L.Γ_c0 (L.ΔR_translog_reader_continued_h8 fu_) .leaf (.tup [.any, .any]) [] Tryz.f20 false 1) (ss := L.c0_ss) (os := L.c0_os) (G := L.c0_GR (fu_ + 1)) (runH_ok L.Γ_c0_ok (ctxE_ok L.Δ_c0_ok (L.c0_okR fu_)) Tryz.func20 (ann := .leaf) rfl (annOk_leaf _)) (L.c0_imp fu_)
theorem L.c0_ok : SoundO L.pg 20 L.c0_S :=
 fnO_ex (GR := L.c0_GR) (G := L.c0_G) L.c0_okR fun _ _ _ h => h.out
def L.Γ_e8 : Ctx := L.Γ_c0
theorem L.Γ_e8_ok : SoundG L.pg L.Γ_e8 := L.Γ_c0_ok
def L.Δ_e8 : CtxO := ctxE L.Δ_c0 20 [.any, .any, .any, .any, .any] L.c0_ss L.c0_os L.c0_G
theorem L.Δ_e8_ok : SoundGO L.pg L.Δ_e8 := ctxE_ok L.Δ_c0_ok L.c0_ok
def L.e8_B (r_proof : (List Int)) (r_short : Bool) (K : Bool -> Prop) : Prop :=
 K (bif (!r_short) then ((r_proof.length : Int) == 0) else false)
structure L.e8 (r_proof : (List Int)) (r_short : Bool) (K : Bool -> Prop) : Prop where
 out : L.e8_B r_proof r_short K
def L.e8_ss : List Sh := [.rc [.ro (.int .i64), .bool] 0]
def L.e8_G (vs : List V) (K : V -> List Ob -> Prop) : Prop := L.e8 (gR (.int .i64) ((gC (gA vs 0)).getD 0 .any)) (gB ((gC (gA vs 0)).getD 1 .any)) (fun r0 => K (.x (.bool r0)) [])
def L.e8_S : SemF := fun args K => argF L.e8_ss args fun a => L.e8_G a K
noncomputable abbrev L.e8_N : SemF := run L.pg L.Γ_e8 L.Δ_e8 .leaf .any Tryz.f21
theorem L.e8_eq (r_proof : (List Int)) (r_short : Bool) (K : V -> List Ob -> Prop) : L.e8_N [.rc [.ro (.int .i64) r_proof, .x (.bool r_short)] 0] K = L.e8_B r_proof r_short (fun r0 => K (.x (.bool r0)) []) := by
 kernel_rfl
theorem L.e8_imp (vs : List V) (K : V -> List Ob -> Prop) : Imp (L.e8_G vs K) (L.e8_N (mkL L.e8_ss 0 vs) K) :=
 Imp.of (Eq.trans (b := L.e8_N [.rc [.ro (.int .i64) (gR (.int .i64) ((gC (gA vs 0)).getD 0 .any)), .x (.bool (gB ((gC (gA vs 0)).getD 1 .any)))] 0] K) (by kernel_rfl) (L.e8_eq (gR (.int .i64) ((gC (gA vs 0)).getD 0 .any)) (gB ((gC (gA vs 0)).getD 1 .any)) K)) fun h => (L.e8.out h)
theorem L.e8_ok : SoundFn L.pg 21 L.e8_S :=
 fn_ok (sem := L.e8_N) (ss := L.e8_ss) (G := L.e8_G) (run_ok L.Γ_e8_ok L.Δ_e8_ok Tryz.func21 (ann := .leaf) (annOk_leaf _)) L.e8_imp
def L.Γ_a4 : Ctx := ctxC L.Γ_e8 21 L.e8_S
theorem L.Γ_a4_ok : SoundG L.pg L.Γ_a4 := ctxC_ok L.Γ_e8_ok L.e8_ok
def L.Δ_a4 : CtxO := L.Δ_e8
theorem L.Δ_a4_ok : SoundGO L.pg L.Δ_a4 := L.Δ_e8_ok
def L.a4_L1_b (v37 v371 v372 v373 : Bool) (v38 : Int) (self : Int -> Prop) (Kx0 : Prop) (Kr : Bool -> Int -> Int -> Prop) : Prop :=
 (bif (decide (v38 < 4)) then (inB v38 4) /\ (bif (!(([v37, v371, v372, v373] : List Bool).getD v38.toNat false)) then Kr false 3 v38 else self (i64 (v38 + 1))) else Kx0)
def L.a4_L1_R (v37 v371 v372 v373 : Bool) : Nat -> Int -> (Prop) -> (Bool -> Int -> Int -> Prop) -> Prop
 | 0, _, _, _ => False
 | fu + 1, v38, Kx0, Kr => L.a4_L1_b v37 v371 v372 v373 v38 (fun v38 => L.a4_L1_R v37 v371 v372 v373 fu v38 Kx0 Kr) Kx0 Kr
structure L.a4_L1 (v37 v371 v372 v373 : Bool) (v38 : Int) (Kx0 : Prop) (Kr : Bool -> Int -> Int -> Prop) : Prop where
 out : ∃ fu, L.a4_L1_R v37 v371 v372 v373 fu v38 Kx0 Kr
def L.a4_L1_d : LoopD := { base := 2, vecs := [], flds := [], keep := [0, 1, 2, 3, 4, 11, 37, 38], out := [0, 1, 2, 3, 4, 11], rets := [10, 11], rv := [], rbase := 0 }
def L.a4_L1_ss : List Sh := [.int .i64, .int .i64, .int .i64, .int .i64, .ro (.int .i64), .cl 0 0, .agg [.bool, .bool, .bool, .bool], .int .i64]
def L.a4_L1_os : List OSh := [.cells [.int .i64, .int .i64], .cells [.bool, .bool, .bool, .bool]]
def L.a4_L1_G (vs : List V) (st : List Ob) (K : Ex -> St) : Prop := L.a4_L1 (gB ((gC (gA vs 6)).getD 0 .any)) (gB ((gC (gA vs 6)).getD 1 .any)) (gB ((gC (gA vs 6)).getD 2 .any)) (gB ((gC (gA vs 6)).getD 3 .any)) (gI (gA vs 7)) (K (.exit 0) (bld [0, 1, 2, 3, 4, 11] [.xi (gI (gA vs 0)), .xi (gI (gA vs 1)), .xi (gI (gA vs 2)), .xi (gI (gA vs 3)), .ro (.int .i64) (gR (.int .i64) (gA vs 4)), .cl 0 0] 0 77) [.cells [.xi (cI st 0 0), .xi (cI st 0 1)], .cells [.x (.bool (gB ((oC (gD st 1)).getD 0 .any))), .x (.bool (gB ((oC (gD st 1)).getD 1 .any))), .x (.bool (gB ((oC (gD st 1)).getD 2 .any))), .x (.bool (gB ((oC (gD st 1)).getD 3 .any)))]]) (fun q0_ q1_ q2_ => K .ret (bld [10, 11] [.x (.bool q0_), .cl 0 0] 0 77) [.cells [.xi q1_, .xi q2_]])
def L.a4_L1_F (vs : List V) (st : List Ob) (K : Ex -> St) : Prop := fitF L.a4_L1_ss L.a4_L1_os vs st (L.a4_L1_G vs st K)
theorem L.a4_L1_eq (oldRoot1 m1 newRoot1 n1 : Int) (proof1 : (List Int)) (v37 v371 v372 v373 : Bool) (m0 m01 : Int) (m11 m12 m13 m14 : Bool) (K : Ex -> St) : ∀ (fu : Nat) (v38 : Int), L.a4_L1_R v37 v371 v372 v373 fu v38 (K (.exit 0) (bld [0, 1, 2, 3, 4, 11] [.xi oldRoot1, .xi m1, .xi newRoot1, .xi n1, .ro (.int .i64) proof1, .cl 0 0] 0 77) [.cells [.xi m0, .xi m01], .cells [.x (.bool m11), .x (.bool m12), .x (.bool m13), .x (.bool m14)]]) (fun q0_ q1_ q2_ => K .ret (bld [10, 11] [.x (.bool q0_), .cl 0 0] 0 77) [.cells [.xi q1_, .xi q2_]]) = iterL (stepL (L.ex L.Γ_a4 L.Δ_a4 .leaf (sub [true, true, false, true, false, false] (codeOf Tryz.f7))) 2 L.a4_L1_d K) fu (bld L.a4_L1_d.keep [.xi oldRoot1, .xi m1, .xi newRoot1, .xi n1, .ro (.int .i64) proof1, .cl 0 0, .agg [.x (.bool v37), .x (.bool v371), .x (.bool v372), .x (.bool v373)], .xi v38] 0 77) [.cells [.xi m0, .xi m01], .cells [.x (.bool m11), .x (.bool m12), .x (.bool m13), .x (.bool m14)]] := by
 intro fu
 induction fu with
 | zero => intros; rfl
 | succ fu ih =>
  intro v38
  have e : (fun v38 => L.a4_L1_R v37 v371 v372 v373 fu v38 (K (.exit 0) (bld [0, 1, 2, 3, 4, 11] [.xi oldRoot1, .xi m1, .xi newRoot1, .xi n1, .ro (.int .i64) proof1, .cl 0 0] 0 77) [.cells [.xi m0, .xi m01], .cells [.x (.bool m11), .x (.bool m12), .x (.bool m13), .x (.bool m14)]]) (fun q0_ q1_ q2_ => K .ret (bld [10, 11] [.x (.bool q0_), .cl 0 0] 0 77) [.cells [.xi q1_, .xi q2_]])) = fun v38 => iterL (stepL (L.ex L.Γ_a4 L.Δ_a4 .leaf (sub [true, true, false, true, false, false] (codeOf Tryz.f7))) 2 L.a4_L1_d K) fu (bld L.a4_L1_d.keep [.xi oldRoot1, .xi m1, .xi newRoot1, .xi n1, .ro (.int .i64) proof1, .cl 0 0, .agg [.x (.bool v37), .x (.bool v371), .x (.bool v372), .x (.bool v373)], .xi v38] 0 77) [.cells [.xi m0, .xi m01], .cells [.x (.bool m11), .x (.bool m12), .x (.bool m13), .x (.bool m14)]] := by
   funext v38; exact ih v38
  show L.a4_L1_b v37 v371 v372 v373 v38 (fun v38 => L.a4_L1_R v37 v371 v372 v373 fu v38 (K (.exit 0) (bld [0, 1, 2, 3, 4, 11] [.xi oldRoot1, .xi m1, .xi newRoot1, .xi n1, .ro (.int .i64) proof1, .cl 0 0] 0 77) [.cells [.xi m0, .xi m01], .cells [.x (.bool m11), .x (.bool m12), .x (.bool m13), .x (.bool m14)]]) (fun q0_ q1_ q2_ => K .ret (bld [10, 11] [.x (.bool q0_), .cl 0 0] 0 77) [.cells [.xi q1_, .xi q2_]])) (K (.exit 0) (bld [0, 1, 2, 3, 4, 11] [.xi oldRoot1, .xi m1, .xi newRoot1, .xi n1, .ro (.int .i64) proof1, .cl 0 0] 0 77) [.cells [.xi m0, .xi m01], .cells [.x (.bool m11), .x (.bool m12), .x (.bool m13), .x (.bool m14)]]) (fun q0_ q1_ q2_ => K .ret (bld [10, 11] [.x (.bool q0_), .cl 0 0] 0 77) [.cells [.xi q1_, .xi q2_]]) = _
  rw [e]
  kernel_rfl
theorem L.a4_L1_imp (vs : List V) (st : List Ob) (K : Ex -> St) (h : L.a4_L1_G vs st K) : ∃ fu, iterL (stepL (L.ex L.Γ_a4 L.Δ_a4 .leaf (sub [true, true, false, true, false, false] (codeOf Tryz.f7))) 2 L.a4_L1_d K) fu (bld L.a4_L1_d.keep (mkL L.a4_L1_ss 0 vs) 0 77) (mkOs L.a4_L1_os 0 st) :=
 exMap (fun fu h => @Eq.mp _ _ (Eq.trans (L.a4_L1_eq (gI (gA vs 0)) (gI (gA vs 1)) (gI (gA vs 2)) (gI (gA vs 3)) (gR (.int .i64) (gA vs 4)) (gB ((gC (gA vs 6)).getD 0 .any)) (gB ((gC (gA vs 6)).getD 1 .any)) (gB ((gC (gA vs 6)).getD 2 .any)) (gB ((gC (gA vs 6)).getD 3 .any)) (cI st 0 0) (cI st 0 1) (gB ((oC (gD st 1)).getD 0 .any)) (gB ((oC (gD st 1)).getD 1 .any)) (gB ((oC (gD st 1)).getD 2 .any)) (gB ((oC (gD st 1)).getD 3 .any)) K fu (gI (gA vs 7))) (by kernel_rfl)) h) (L.a4_L1.out h)
theorem L.a4_L1_ok : AnnOk L.pg (CC L.pg L.Γ_a4 L.Δ_a4) (drawD L.pg L.Γ_a4 L.Δ_a4) 0 (.lift L.a4_L1_d 77 L.a4_L1_F) (.loop (sub [true, true, false, true, false, false] (codeOf Tryz.f7))) :=
 lift_ok (an := .leaf) (ss := L.a4_L1_ss) (os := L.a4_L1_os) (G := L.a4_L1_G) rfl (Nat.le_of_ble_eq_true rfl) (annOk_leaf _) (L.a4_L1_imp)
def L.a4_B (oldRoot m newRoot n : Int) (proof : (List Int)) (K : Bool -> Int -> Int -> Prop) : Prop :=
 L.c8 oldRoot (fun r => L.c8 newRoot (fun r1 => L.a4_L1 r (bif (decide (m ≥ 1)) then (decide (m <= n)) else false) r1 (bif (decide (n ≥ 1)) then (decide (n <= 64)) else false) 0 (L.d8 proof (fun rCode rIndex => (bif (!((rCode == 0) && ((rIndex == 0) && true))) then K false rCode rIndex else L.c0 n m oldRoot true proof false (fun r2 r3 r4 r5 => (bif (bif (r2 == oldRoot) then (r3 == newRoot) else false) then L.e8 r4 r5 (fun r6 => K (bif true then r6 else false) 0 0) else K false 0 0))))) (fun r7 m1 m2 => K r7 m1 m2)))
structure L.a4 (oldRoot m newRoot n : Int) (proof : (List Int)) (K : Bool -> Int -> Int -> Prop) : Prop where
 out : L.a4_B oldRoot m newRoot n proof K
def L.a4_ss : List Sh := [.int .i64, .int .i64, .int .i64, .int .i64, .ro (.int .i64)]
def L.a4_G (vs : List V) (K : V -> List Ob -> Prop) : Prop := L.a4 (gI (gA vs 0)) (gI (gA vs 1)) (gI (gA vs 2)) (gI (gA vs 3)) (gR (.int .i64) (gA vs 4)) (fun r0 r1 r2 => K (.tup [.x (.bool r0), .agg [.xi r1, .xi r2]]) [])
def L.a4_S : SemF := fun args K => argF L.a4_ss args fun a => L.a4_G a K
noncomputable abbrev L.a4_N : SemF := run L.pg L.Γ_a4 L.Δ_a4 (.node .leaf (.node .leaf (.node (.node .leaf (.lift L.a4_L1_d 77 L.a4_L1_F)) .leaf))) .any Tryz.f7
theorem L.a4_eq (oldRoot m newRoot n : Int) (proof : (List Int)) (K : V -> List Ob -> Prop) : L.a4_N [.xi oldRoot, .xi m, .xi newRoot, .xi n, .ro (.int .i64) proof] K = L.a4_B oldRoot m newRoot n proof (fun r0 r1 r2 => K (.tup [.x (.bool r0), .agg [.xi r1, .xi r2]]) []) := by
 kernel_rfl
theorem L.a4_imp (vs : List V) (K : V -> List Ob -> Prop) : Imp (L.a4_G vs K) (L.a4_N (mkL L.a4_ss 0 vs) K) :=
 Imp.of (Eq.trans (b := L.a4_N [.xi (gI (gA vs 0)), .xi (gI (gA vs 1)), .xi (gI (gA vs 2)), .xi (gI (gA vs 3)), .ro (.int .i64) (gR (.int .i64) (gA vs 4))] K) (by kernel_rfl) (L.a4_eq (gI (gA vs 0)) (gI (gA vs 1)) (gI (gA vs 2)) (gI (gA vs 3)) (gR (.int .i64) (gA vs 4)) K)) fun h => (L.a4.out h)
theorem L.a4_ok : SoundFn L.pg 7 L.a4_S :=
 fn_ok (sem := L.a4_N) (ss := L.a4_ss) (G := L.a4_G) (run_ok L.Γ_a4_ok L.Δ_a4_ok Tryz.func7 (ann := (.node .leaf (.node .leaf (.node (.node .leaf (.lift L.a4_L1_d 77 L.a4_L1_F)) .leaf)))) ⟨(annOk_leaf _), ⟨(annOk_leaf _), ⟨⟨(annOk_leaf _), L.a4_L1_ok⟩, (annOk_leaf _)⟩⟩⟩) L.a4_imp
def L.Γ_b3 : Ctx := ctxC L.Γ_a4 7 L.a4_S
theorem L.Γ_b3_ok : SoundG L.pg L.Γ_b3 := ctxC_ok L.Γ_a4_ok L.a4_ok
def L.Δ_b3 : CtxO := L.Δ_a4
theorem L.Δ_b3_ok : SoundGO L.pg L.Δ_b3 := L.Δ_a4_ok
def L.b3_L1_b (log1 : (List (Int × L.ya))) (i_ : Int) (chains : (List Int)) (self : Int -> (List Int) -> Prop) (Kx0 : (List Int) -> Prop) : Prop :=
 (bif (decide (i_ < (log1.length : Int))) then (inB i_ log1.length) /\ (fits (chains.length + ([(log1.getD i_.toNat (0, (0, (0, 0)))).2.2.2] : List Int).length)) /\ self (i64 (i_ + 1)) (chains ++ ([(log1.getD i_.toNat (0, (0, (0, 0)))).2.2.2] : List Int)) else Kx0 chains)
def L.b3_L1_R (log1 : (List (Int × L.ya))) : Nat -> Int -> (List Int) -> ((List Int) -> Prop) -> Prop
 | 0, _, _, _ => False
 | fu + 1, i_, chains, Kx0 => L.b3_L1_b log1 i_ chains (fun i_ chains => L.b3_L1_R log1 fu i_ chains Kx0) Kx0
structure L.b3_L1 (log1 : (List (Int × L.ya))) (i_ : Int) (chains : (List Int)) (Kx0 : (List Int) -> Prop) : Prop where
 out : ∃ fu, L.b3_L1_R log1 fu i_ chains Kx0
def L.b3_L1_d : LoopD := { base := 2, vecs := [(9, .sl (.int .i64))], flds := [], keep := [0, 1, 5, 7, 9, 10], out := [0, 1, 5, 7, 9], rets := [4], rv := [], rbase := 0 }
def L.b3_L1_ss : List Sh := [.ro L.T1, .int .i64, .int .i64, .int .i64, .vec 2, .int .i64]
def L.b3_L1_os : List OSh := [.cells [.int .i64, .int .i64], .cells [.int .i64, .int .i64], .vec (.int .i64) true]
def L.b3_L1_G (vs : List V) (st : List Ob) (K : Ex -> St) : Prop := L.b3_L1 (gR L.T1 (gA vs 0)) (gI (gA vs 5)) (oX (.int .i64) (gD st 2)) (fun q0_ => K (.exit 0) (bld [0, 1, 5, 7, 9] [.ro L.T1 (gR L.T1 (gA vs 0)), .xi (gI (gA vs 1)), .xi (gI (gA vs 2)), .xi (gI (gA vs 3)), .vec 2] 0 89) [.cells [.xi (cI st 0 0), .xi (cI st 0 1)], .cells [.xi (cI st 1 0), .xi (cI st 1 1)], .vec (.int .i64) 0 q0_])
def L.b3_L1_F (vs : List V) (st : List Ob) (K : Ex -> St) : Prop := fitF L.b3_L1_ss L.b3_L1_os vs st (L.b3_L1_G vs st K)
theorem L.b3_L1_eq (log1 : (List (Int × L.ya))) (m1 a b m0 m01 m11 m12 : Int) (K : Ex -> St) : ∀ (fu : Nat) (i_ : Int) (chains : (List Int)), L.b3_L1_R log1 fu i_ chains (fun q0_ => K (.exit 0) (bld [0, 1, 5, 7, 9] [.ro L.T1 log1, .xi m1, .xi a, .xi b, .vec 2] 0 89) [.cells [.xi m0, .xi m01], .cells [.xi m11, .xi m12], .vec (.int .i64) 0 q0_]) = iterL (stepL (L.ex L.Γ_b3 L.Δ_b3 .leaf (sub [true, true, true, true, true, true, true, false, true, false, false] (codeOf Tryz.f3))) 2 L.b3_L1_d K) fu (bld L.b3_L1_d.keep [.ro L.T1 log1, .xi m1, .xi a, .xi b, .vec 2, .xi i_] 0 89) [.cells [.xi m0, .xi m01], .cells [.xi m11, .xi m12], .vec (.int .i64) 0 chains] := by
 intro fu
 induction fu with
 | zero => intros; rfl
 | succ fu ih =>
  intro i_ chains
  have e : (fun i_ chains => L.b3_L1_R log1 fu i_ chains (fun q0_ => K (.exit 0) (bld [0, 1, 5, 7, 9] [.ro L.T1 log1, .xi m1, .xi a, .xi b, .vec 2] 0 89) [.cells [.xi m0, .xi m01], .cells [.xi m11, .xi m12], .vec (.int .i64) 0 q0_])) = fun i_ chains => iterL (stepL (L.ex L.Γ_b3 L.Δ_b3 .leaf (sub [true, true, true, true, true, true, true, false, true, false, false] (codeOf Tryz.f3))) 2 L.b3_L1_d K) fu (bld L.b3_L1_d.keep [.ro L.T1 log1, .xi m1, .xi a, .xi b, .vec 2, .xi i_] 0 89) [.cells [.xi m0, .xi m01], .cells [.xi m11, .xi m12], .vec (.int .i64) 0 chains] := by
   funext i_ chains; exact ih i_ chains
  show L.b3_L1_b log1 i_ chains (fun i_ chains => L.b3_L1_R log1 fu i_ chains (fun q0_ => K (.exit 0) (bld [0, 1, 5, 7, 9] [.ro L.T1 log1, .xi m1, .xi a, .xi b, .vec 2] 0 89) [.cells [.xi m0, .xi m01], .cells [.xi m11, .xi m12], .vec (.int .i64) 0 q0_])) (fun q0_ => K (.exit 0) (bld [0, 1, 5, 7, 9] [.ro L.T1 log1, .xi m1, .xi a, .xi b, .vec 2] 0 89) [.cells [.xi m0, .xi m01], .cells [.xi m11, .xi m12], .vec (.int .i64) 0 q0_]) = _
  rw [e]
  kernel_rfl
theorem L.b3_L1_imp (vs : List V) (st : List Ob) (K : Ex -> St) (h : L.b3_L1_G vs st K) : ∃ fu, iterL (stepL (L.ex L.Γ_b3 L.Δ_b3 .leaf (sub [true, true, true, true, true, true, true, false, true, false, false] (codeOf Tryz.f3))) 2 L.b3_L1_d K) fu (bld L.b3_L1_d.keep (mkL L.b3_L1_ss 0 vs) 0 89) (mkOs L.b3_L1_os 0 st) :=
 exMap (fun fu h => @Eq.mp _ _ (Eq.trans (L.b3_L1_eq (gR L.T1 (gA vs 0)) (gI (gA vs 1)) (gI (gA vs 2)) (gI (gA vs 3)) (cI st 0 0) (cI st 0 1) (cI st 1 0) (cI st 1 1) K fu (gI (gA vs 5)) (oX (.int .i64) (gD st 2))) (by kernel_rfl)) h) (L.b3_L1.out h)
theorem L.b3_L1_ok : AnnOk L.pg (CC L.pg L.Γ_b3 L.Δ_b3) (drawD L.pg L.Γ_b3 L.Δ_b3) 0 (.lift L.b3_L1_d 89 L.b3_L1_F) (.loop (sub [true, true, true, true, true, true, true, false, true, false, false] (codeOf Tryz.f3))) :=
 lift_ok (an := .leaf) (ss := L.b3_L1_ss) (os := L.b3_L1_os) (G := L.b3_L1_G) rfl (Nat.le_of_ble_eq_true rfl) (annOk_leaf _) (L.b3_L1_imp)
def L.b3_B (log : (List (Int × L.ya))) (m : Int) (K : Bool -> Prop) : Prop :=
 L.e4 (fun r => (bif (!r) then K false else (bif (bif (decide (m < 1)) then true else (decide (m > (log.length : Int)))) then K true else (0 <= m /\ m <= log.length) /\ L.c6 (log.take m.toNat) (fun r1 rCode rIndex => L.c6 log (fun r2 rCode1 rIndex1 => (bif (bif (rCode != 0) then true else (rCode1 != 0)) then K (rCode1 != 0) else L.b3_L1 log 0 ([] : List Int) (fun chains => L.d0 chains m (fun r3 rCode2 rIndex2 => L.a4 r1 m r2 (log.length : Int) r3 (fun r4 rCode3 rIndex3 => K (bif (bif (rCode2 == 0) then (rCode3 == 0) else false) then r4 else false))))))))))
structure L.b3 (log : (List (Int × L.ya))) (m : Int) (K : Bool -> Prop) : Prop where
 out : L.b3_B log m K
def L.b3_ss : List Sh := [.ro L.T1, .int .i64]
def L.b3_G (vs : List V) (K : V -> List Ob -> Prop) : Prop := L.b3 (gR L.T1 (gA vs 0)) (gI (gA vs 1)) (fun r0 => K (.x (.bool r0)) [])
def L.b3_S : SemF := fun args K => argF L.b3_ss args fun a => L.b3_G a K
noncomputable abbrev L.b3_N : SemF := run L.pg L.Γ_b3 L.Δ_b3 (.node .leaf (.node .leaf (.node .leaf (.node .leaf (.node .leaf (.node .leaf (.node .leaf (.node (.node .leaf (.lift L.b3_L1_d 89 L.b3_L1_F)) .leaf)))))))) .any Tryz.f3
theorem L.b3_eq (log : (List (Int × L.ya))) (m : Int) (K : V -> List Ob -> Prop) : L.b3_N [.ro L.T1 log, .xi m] K = L.b3_B log m (fun r0 => K (.x (.bool r0)) []) := by
 kernel_rfl
theorem L.b3_imp (vs : List V) (K : V -> List Ob -> Prop) : Imp (L.b3_G vs K) (L.b3_N (mkL L.b3_ss 0 vs) K) :=
 Imp.of (Eq.trans (b := L.b3_N [.ro L.T1 (gR L.T1 (gA vs 0)), .xi (gI (gA vs 1))] K) (by kernel_rfl) (L.b3_eq (gR L.T1 (gA vs 0)) (gI (gA vs 1)) K)) fun h => (L.b3.out h)
theorem L.b3_ok : SoundFn L.pg 3 L.b3_S :=
 fn_ok (sem := L.b3_N) (ss := L.b3_ss) (G := L.b3_G) (run_ok L.Γ_b3_ok L.Δ_b3_ok Tryz.func3 (ann := (.node .leaf (.node .leaf (.node .leaf (.node .leaf (.node .leaf (.node .leaf (.node .leaf (.node (.node .leaf (.lift L.b3_L1_d 89 L.b3_L1_F)) .leaf))))))))) ⟨(annOk_leaf _), ⟨(annOk_leaf _), ⟨(annOk_leaf _), ⟨(annOk_leaf _), ⟨(annOk_leaf _), ⟨(annOk_leaf _), ⟨(annOk_leaf _), ⟨⟨(annOk_leaf _), L.b3_L1_ok⟩, (annOk_leaf _)⟩⟩⟩⟩⟩⟩⟩⟩) L.b3_imp
end Go.Proofs.YtnpjonhoihbaeaaGreat
set_option linter.unusedSimpArgs false
set_option maxRecDepth 100000
namespace Go.Proofs.YtnpjonhoihbaeaaGreat
open Eng
namespace Au
theorem drop_cons {α : Type} {l : List α} {i : Nat} (d : α) (h : i < l.length) : l.drop i = l.getD i d :: l.drop (i + 1) := by
 rw [List.drop_eq_getElem_cons h, List.getD_eq_getElem?_getD, List.getElem?_eq_getElem h]; rfl
theorem getD_mem {α : Type} {l : List α} {i : Nat} (d : α) (h : i < l.length) : l.getD i d ∈ l := by
 rw [List.getD_eq_getElem?_getD, List.getElem?_eq_getElem h]; exact List.getElem_mem h
theorem take_snoc {α : Type} {l : List α} {i : Nat} (d : α) (h : i < l.length) : l.take (i + 1) = l.take i ++ [l.getD i d] := by
 rw [List.take_succ_eq_append_getElem h, List.getD_eq_getElem?_getD, List.getElem?_eq_getElem h]; rfl
theorem fits_of {n : Nat} (h : n <= 1000) : fits n := by unfold fits; omega
theorem bool_iff {a b : Bool} (h : a = true ↔ b = true) : a = b := by cases a <;> cases b <;> simp_all
def dg (a : Int) : Prop := 0 <= a /\ a < 2305843009213693951
def pr (a b : Int) : Int := (a * 1000003 + b * 31 + 7) % 2305843009213693951
theorem pr_dg (a b : Int) : dg (pr a b) := by unfold dg pr; omega
theorem bit1 (b : Nat) : (BitVec.ofInt 64 (b : Int) &&& BitVec.ofInt 64 1).toNat = b % 2 := by
 rw [BitVec.toNat_and]
 have h1 : (BitVec.ofInt 64 (1 : Int)).toNat = 1 := by decide
 rw [h1, Nat.and_one_is_mod]
 simp only [BitVec.ofInt_natCast, BitVec.toNat_ofNat]
 omega
theorem half1 (b : Nat) : (b : Int).fdiv (2 ^ (min (1 : Int).toNat 64)) = ((b / 2 : Nat) : Int) := by
 show (b : Int).fdiv 2 = _
 rw [Int.fdiv_eq_ediv_of_nonneg _ (by omega)]
 omega
theorem step1 {a out : Int} {b : Nat} (hb : b % 2 = 1) : ((out + a) % 2305843009213693951 + (2 * a % 2305843009213693951) * ((b / 2 : Nat) : Int)) % 2305843009213693951 = (out + a * b) % 2305843009213693951 := by
 have e : out + a * (b : Int) = (out + a) + 2 * a * ((b / 2 : Nat) : Int) := by
  have h : (b : Int) = 2 * ((b / 2 : Nat) : Int) + 1 := by omega
  generalize hk : ((b / 2 : Nat) : Int) = k at h ⊢
  rw [h, Int.mul_add, Int.mul_one, Int.mul_left_comm, Int.mul_assoc]; omega
 rw [e, Int.add_emod, Int.emod_emod, Int.mul_emod, Int.emod_emod, <- Int.mul_emod, <- Int.add_emod]
theorem step0 {a out : Int} {b : Nat} (hb : b % 2 = 0) : (out + (2 * a % 2305843009213693951) * ((b / 2 : Nat) : Int)) % 2305843009213693951 = (out + a * b) % 2305843009213693951 := by
 have e : out + a * (b : Int) = out + 2 * a * ((b / 2 : Nat) : Int) := by
  have h : (b : Int) = 2 * ((b / 2 : Nat) : Int) := by omega
  generalize hk : ((b / 2 : Nat) : Int) = k at h ⊢
  rw [h, Int.mul_left_comm, Int.mul_assoc]
 rw [e, Int.add_emod, Int.mul_emod, Int.emod_emod, <- Int.mul_emod, <- Int.add_emod]
theorem tmod_pos {a : Int} (h : 0 <= a) : a.tmod 2305843009213693951 = a % 2305843009213693951 := Int.tmod_eq_emod_of_nonneg h
theorem mul_loop {K : Int -> Prop} : ∀ (fu b : Nat) (a out : Int), b < 2 ^ fu -> fu <= 60 -> dg a -> dg out -> K ((out + a * b) % 2305843009213693951) -> L.b6_L1_R (fu + 1) a b out K
 | fu, b, a, out, hb, hf, ha, ho, hK => by
  have hlt : (2 : Nat) ^ fu <= 2 ^ 60 := Nat.pow_le_pow_right (by omega) hf
  have h60 : (2 : Nat) ^ 60 = 1152921504606846976 := by decide
  show L.b6_L1_b a b out _ _
  unfold L.b6_L1_b
  obtain ⟨ha1, ha2⟩ := ha
  obtain ⟨ho1, ho2⟩ := ho
  rcases Nat.eq_zero_or_pos b with rfl | hpos
  · refine cond_f (by simp) ?_
    have : (out + a * ((0 : Nat) : Int)) % 2305843009213693951 = out := by
     simp only [Int.natCast_zero, Int.mul_zero, Int.add_zero]; omega
    rw [this] at hK
    exact hK
  · refine cond_t (by simp; omega) ?_
    obtain ⟨f, rfl⟩ : ∃ f, fu = f + 1 := by
     cases fu with
     | zero => omega
     | succ f => exact ⟨f, rfl⟩
    have hb2 : b / 2 < 2 ^ f := by rw [Nat.pow_succ] at hb; omega
    rw [bit1, half1]
    rw [i64_id (n := (2 : Int) * a) (by omega) (by omega), tmod_pos (by omega)]
    have hda : dg (2 * a % 2305843009213693951) := by unfold dg; omega
    rcases Nat.mod_two_eq_zero_or_one b with h | h
    · rw [h]
      refine cond_f (by decide) ⟨by decide, by decide, ?_⟩
      refine mul_loop f (b / 2) _ out hb2 (by omega) hda ⟨ho1, ho2⟩ ?_
      rw [step0 h]; exact hK
    · rw [h]
      refine cond_t (by decide) ⟨by decide, by decide, by decide, ?_⟩
      rw [i64_id (n := out + a) (by omega) (by omega), tmod_pos (by omega)]
      refine mul_loop f (b / 2) _ _ hb2 (by omega) hda (by unfold dg; omega) ?_
      rw [step1 h]; exact hK
theorem mul_ok {a : Int} {b : Nat} (ha : dg a) (hb : b < 1048576) {K : Int -> Prop} (hK : K (a * b % 2305843009213693951)) : L.b6 a b K :=
 ⟨⟨⟨21, mul_loop 20 b a 0 hb (by omega) ha ⟨by omega, by omega⟩ (by rw [Int.zero_add]; exact hK)⟩⟩⟩
theorem next_ok {s0 s1 : Int} {f : Nat} (h0 : dg s0) (h1 : 0 <= s1 /\ s1 <= 2305843009213693951) (hf : f < 1048576) {K : Int -> Prop} (hK : K ((s0 * f % 2305843009213693951 + s1) % 2305843009213693951)) : L.d6 s0 s1 f K := by
 constructor
 unfold L.d6_B
 refine ⟨inB_of (by omega) (by omega), by decide, mul_ok h0 hf ⟨inB_of (by omega) (by omega), by decide, by decide, ?_⟩⟩
 show K ((i64 (s0 * f % 2305843009213693951 + s1)).tmod 2305843009213693951)
 rw [i64_id (by omega) (by omega), tmod_pos (by omega)]
 exact hK
theorem pair_ok {a b : Int} (ha : dg a) (hb : dg b) {K : Int -> Prop} (hK : K (pr a b)) : L.e3 a b K := by
 constructor
 unfold L.e3_B
 refine next_ok (f := 31) hb (by omega) (by omega) (next_ok (f := 1000003) ha (by omega) (by omega) ?_)
 have : (a * ((1000003 : Nat) : Int) % 2305843009213693951 + (b * ((31 : Nat) : Int) % 2305843009213693951 + 7) % 2305843009213693951) % 2305843009213693951 = pr a b := by unfold pr; omega
 rw [this]; exact hK
def vd (c : Int) : Bool := decide (0 <= c /\ c < 2305843009213693951)
theorem vd_iff {c : Int} : vd c = true ↔ dg c := by unfold vd dg; simp
theorem is_ok {n : Int} {K : Bool -> Prop} (hK : K (vd n)) : L.e5 n K := by
 constructor
 unfold L.e5_B
 have : (bif (decide (n ≥ 0)) then (decide (n < 2305843009213693951)) else false) = vd n := bool_iff (by simp [vd])
 rw [this]; exact hK
theorem isDigest_ok {n : Int} {K : Bool -> Prop} (hK : K (vd n)) : L.c8 n K := by
 constructor
 unfold L.c8_B
 have : (bif (decide (n ≥ 0)) then (decide (n < 2305843009213693951)) else false) = vd n := bool_iff (by simp [vd])
 rw [this]; exact hK
theorem isDigest2_ok {n : Int} {K : Bool -> Prop} (hK : K (vd n)) : L.e0 n K := by
 constructor
 unfold L.e0_B
 have : (bif (decide (n ≥ 0)) then (decide (n < 2305843009213693951)) else false) = vd n := bool_iff (by simp [vd])
 rw [this]; exact hK
theorem Pair_ok {a b : Int} (ha : dg a) (hb : dg b) {K : Int -> Int -> Int -> Prop} (hK : K (pr a b) 0 0) : L.a5 a b K := by
 refine ⟨⟨⟨3, ?_⟩⟩⟩
 show L.a5_L1_b a b 0 _ _ _
 unfold L.a5_L1_b
 refine cond_t (by decide) ⟨inB_of (by omega) (by omega), is_ok ?_⟩
 have h1 : vd ((([a, b] : List Int).getD (0 : Int).toNat 0)) = true := vd_iff.2 ha
 rw [h1]
 refine cond_f rfl ?_
 rw [i64_id (by omega) (by omega)]
 show L.a5_L1_b a b (0 + 1) _ _ _
 unfold L.a5_L1_b
 refine cond_t (by decide) ⟨inB_of (by omega) (by omega), is_ok ?_⟩
 have h2 : vd ((([a, b] : List Int).getD (0 + 1 : Int).toNat 0)) = true := vd_iff.2 hb
 rw [h2]
 refine cond_f rfl ?_
 rw [i64_id (by omega) (by omega)]
 show L.a5_L1_b a b (0 + 1 + 1) _ _ _
 unfold L.a5_L1_b
 exact cond_f (by decide) (pair_ok ha hb hK)
theorem tpair_ok {a b : Int} (ha : dg a) (hb : dg b) {K : Int -> Prop} (hK : K (pr a b)) : L.c9 a b K := ⟨Pair_ok ha hb hK⟩
abbrev R := Int × L.ya
def vr (t u a : Int) : Bool := decide (0 <= t /\ t <= 100000 /\ 0 <= u /\ u <= 7 /\ 0 <= a /\ a <= 1000000000)
theorem vr_iff {t u a : Int} : vr t u a = true ↔ 0 <= t /\ t <= 100000 /\ 0 <= u /\ u <= 7 /\ 0 <= a /\ a <= 1000000000 := by unfold vr; simp
theorem inRange_ok {t u a c : Int} {K : Bool -> Prop} (hK : K (vr t u a)) : L.d5 t u a c K := by
 constructor
 unfold L.d5_B
 have : (bif (bif (bif (bif (bif (decide (t ≥ 0)) then (decide (t <= 100000)) else false) then (decide (u ≥ 0)) else false) then (decide (u <= 7)) else false) then (decide (a ≥ 0)) else false) then (decide (a <= 1000000000)) else false) = vr t u a := bool_iff (by simp [vr]; omega)
 rw [this]; exact hK
def ch (d t u a : Int) : Int := pr (pr d (8 * t + u)) a
theorem chain_ok {d t u a c : Int} (hd : dg d) (hr : vr t u a = true) {K : Int -> Prop} (hK : K (ch d t u a)) : L.d7 d t u a c K := by
 have h := vr_iff.1 hr
 constructor
 unfold L.d7_B
 rw [i64_id (n := (8 : Int) * t) (by omega) (by omega), i64_id (by omega) (by omega)]
 exact Pair_ok hd (by unfold dg; omega) (Pair_ok (pr_dg _ _) (by unfold dg; omega) hK)
def lf : Int -> R -> List R -> Int × Int
 | _, _, [] => (0, 0)
 | i, p, r :: l => if (vr r.1 r.2.1 r.2.2.1 && vd r.2.2.2) = false then (3, i) else if r.1 < p.1 then (5, i) else if r.2.2.2 ≠ ch p.2.2.2 r.1 r.2.1 r.2.2.1 then (18, i) else lf (i + 1) r l
def logf (l : List R) : Int × Int := if 40 < l.length then (2, -1) else lf 0 (0, 0, 0, 0) l
theorem Validate_loop {l : List R} (hl : l.length <= 40) {K : Int -> Int -> Prop} : ∀ (fu i : Nat) (p : R), i <= l.length -> l.length - i < fu -> dg p.2.2.2 -> K (lf i p (l.drop i)).1 (lf i p (l.drop i)).2 ->
  L.a0_L1_R l (l.length : Int) fu i p.1 p.2.1 p.2.2.1 p.2.2.2 (fun _ _ _ _ => K 0 0) K
 | 0, i, p, _, h, _, _ => by omega
 | fu + 1, i, p, hi, h, hp, hK => by
  show L.a0_L1_b l (l.length : Int) i p.1 p.2.1 p.2.2.1 p.2.2.2 _ _ _
  unfold L.a0_L1_b
  rcases Nat.lt_or_ge i l.length with g | g
  · have hin : inB (i : Int) l.length := inB_of (by omega) (by omega)
    rw [drop_cons ((0, 0, 0, 0) : R) g] at hK
    obtain ⟨r, hr⟩ : ∃ r : R, l.getD i (0, 0, 0, 0) = r := ⟨_, rfl⟩
    rw [hr] at hK
    have hr2 : l.getD (i : Int).toNat (0, (0, (0, 0))) = r := hr
    rw [hr2]
    refine cond_t (by simp; omega) ⟨hin, inRange_ok ?_⟩
    rw [lf] at hK
    cases hv : vr r.1 r.2.1 r.2.2.1 with
    | false =>
     rw [hv, Bool.false_and, if_pos rfl] at hK
     exact cond_t rfl ⟨cond_t rfl ⟨cond_t (by decide) hK⟩⟩
    | true =>
     rw [hv, Bool.true_and] at hK
     refine cond_f rfl (isDigest2_ok ⟨?_⟩)
     unfold L.a0_J4_B
     cases hd : vd r.2.2.2 with
     | false =>
      rw [hd, if_pos rfl] at hK
      exact cond_t rfl ⟨cond_t (by decide) hK⟩
     | true =>
      rw [hd, if_neg (by simp)] at hK
      refine cond_f rfl ?_
      by_cases ht : r.1 < p.1
      · rw [if_pos ht] at hK
        exact cond_t (by simpa using ht) ⟨cond_t (by decide) hK⟩
      · rw [if_neg ht] at hK
        refine cond_f (by simpa using ht) (chain_ok hp hv ?_)
        by_cases hc : r.2.2.2 = ch p.2.2.2 r.1 r.2.1 r.2.2.1
        · rw [if_neg (by simpa using hc)] at hK
          refine cond_f (by simpa using hc) ⟨cond_f (by decide) ?_⟩
          rw [i64_id (by omega) (by omega)]
          exact Validate_loop hl fu (i + 1) r (by omega) (by omega) (vd_iff.1 hd) hK
        · rw [if_pos hc] at hK
          exact cond_t (by simpa using hc) ⟨cond_t (by decide) hK⟩
  · rw [List.drop_eq_nil_of_le g] at hK
    exact cond_f (by simp; omega) hK
theorem Validate_ok {l : List R} {K : Int -> Int -> Prop} (hK : K (logf l).1 (logf l).2) : L.a0 l K := by
 constructor
 unfold L.a0_B
 unfold logf at hK
 by_cases h : 40 < l.length
 · rw [if_pos h] at hK
   exact cond_t (by simp; omega) hK
 · rw [if_neg h] at hK
   exact cond_f (by simp; omega) ⟨⟨l.length + 1, Validate_loop (by omega) _ 0 (0, 0, 0, 0) (by omega) (by omega) (by unfold dg; decide) hK⟩⟩
theorem logf_len {l : List R} (h : logf l = (0, 0)) : l.length <= 40 := by
 unfold logf at h
 split at h
 · cases h
 · omega
theorem fault0 {a b : Int} (h : (a, b) = ((0, 0) : Int × Int)) : (!((a == 0) && ((b == 0) && true))) = false := by cases h; rfl
theorem fault1 {a b : Int} (h : (a, b) ≠ ((0, 0) : Int × Int)) : (!((a == 0) && ((b == 0) && true))) = true := by
 by_cases h1 : a = 0
 · by_cases h2 : b = 0
   · exact absurd (by rw [h1, h2]) h
   · simp [h2]
 · simp [h1]
theorem lf_code : ∀ {l : List R} {i : Int} {p : R}, (lf i p l).1 = 0 -> lf i p l = (0, 0)
 | [], i, p, _ => rfl
 | r :: l, i, p, h => by
  rw [lf] at h ⊢
  split at h
  · cases h
  · next h1 =>
    rw [if_neg h1]
    split at h
    · cases h
    · next h2 =>
      rw [if_neg h2]
      split at h
      · cases h
      · next h3 => rw [if_neg h3]; exact lf_code h
theorem logf_code {l : List R} (h : (logf l).1 = 0) : logf l = (0, 0) := by
 unfold logf at h ⊢
 split at h
 · cases h
 · next hl => rw [if_neg hl]; exact lf_code h
theorem logf_ne {l : List R} (h : logf l ≠ (0, 0)) : ((logf l).1 != 0) = true := by
 rw [bne_iff_ne]; exact fun e => h (logf_code e)
theorem lf_cons {i : Int} {p r : R} {l : List R} : lf i p (r :: l) = (0, 0) ↔ (vr r.1 r.2.1 r.2.2.1 && vd r.2.2.2) = true /\ ¬ r.1 < p.1 /\ r.2.2.2 = ch p.2.2.2 r.1 r.2.1 r.2.2.1 /\ lf (i + 1) r l = (0, 0) := by
 rw [lf]
 by_cases h1 : (vr r.1 r.2.1 r.2.2.1 && vd r.2.2.2) = false
 · rw [if_pos h1]; simp [h1]
 · rw [if_neg h1]
   have h1' : (vr r.1 r.2.1 r.2.2.1 && vd r.2.2.2) = true := by simpa using h1
   by_cases h2 : r.1 < p.1
   · rw [if_pos h2]; simp [h2]
   · rw [if_neg h2]
     by_cases h3 : r.2.2.2 = ch p.2.2.2 r.1 r.2.1 r.2.2.1
     · rw [if_neg (by simpa using h3)]; exact ⟨fun h => ⟨h1', h2, h3, h⟩, fun h => h.2.2.2⟩
     · rw [if_pos h3]; simp [h3]
def last (p : R) : List R -> R
 | [] => p
 | r :: l => last r l
theorem last_dg : ∀ {l : List R} {i : Int} {p : R}, dg p.2.2.2 -> lf i p l = (0, 0) -> dg (last p l).2.2.2
 | [], i, p, hp, _ => hp
 | r :: l, i, p, hp, h => by
  have h := lf_cons.1 h
  simp only [Bool.and_eq_true] at h
  exact last_dg (p := r) (vd_iff.1 h.1.2) h.2.2.2
theorem last_getD : ∀ {l : List R} {p d : R}, l ≠ [] -> last p l = l.getD (l.length - 1) d
 | [], _, _, h => absurd rfl h
 | [a], p, d, _ => rfl
 | a :: b :: l, p, d, _ => by
  rw [last, last_getD (p := a) (d := d) (by simp)]
  simp
theorem lf_take : ∀ {l : List R} {i : Int} {p : R} (n : Nat), lf i p l = (0, 0) -> lf i p (l.take n) = (0, 0)
 | [], i, p, n, h => by simpa using h
 | r :: l, i, p, 0, h => rfl
 | r :: l, i, p, n + 1, h => by
  have h := lf_cons.1 h
  rw [List.take_succ_cons, lf_cons]
  exact ⟨h.1, h.2.1, h.2.2.1, lf_take n h.2.2.2⟩
theorem lf_mem : ∀ {l : List R} {i : Int} {p : R}, lf i p l = (0, 0) -> ∀ r, r ∈ l -> dg r.2.2.2 /\ vr r.1 r.2.1 r.2.2.1 = true
 | [], i, p, _, r, hr => by simp at hr
 | a :: l, i, p, h, r, hr => by
  have h := lf_cons.1 h
  simp only [Bool.and_eq_true] at h
  rcases List.mem_cons.1 hr with rfl | hr
  · exact ⟨vd_iff.1 h.1.2, h.1.1⟩
  · exact lf_mem h.2.2.2 r hr
theorem logf_lf {l : List R} (h : logf l = (0, 0)) : lf 0 (0, 0, 0, 0) l = (0, 0) := by
 unfold logf at h
 split at h
 · cases h
 · exact h
theorem Clone_ok {s : List R} (h : s.length <= 1000) {K : List R -> Prop} (hK : K s) : L.c7 s K := by
 constructor
 unfold L.c7_B
 intro b hb
 cases b with
 | true =>
  refine cond_t rfl ?_
  have : s = [] := by
   apply List.eq_nil_of_length_eq_zero
   exact Classical.byContradiction fun e => by have := hb e; cases this
  rw [this] at hK; exact hK
 | false => exact cond_f rfl ⟨fits_of (by simp; omega), hK⟩
def apf (l : List R) (t u a : Int) : Int := if vr t u a = false then 3 else if t < (last (0, 0, 0, 0) l).1 then 16 else if l.length = 40 then 14 else 0
theorem apf3 {l : List R} {t u a : Int} (h : vr t u a = false) : apf l t u a = 3 := by unfold apf; rw [if_pos h]
theorem apf16 {l : List R} {t u a : Int} (h : vr t u a = true) (h2 : t < (last (0, 0, 0, 0) l).1) : apf l t u a = 16 := by unfold apf; rw [if_neg (by simp [h]), if_pos h2]
theorem apf14 {l : List R} {t u a : Int} (h : vr t u a = true) (h2 : ¬ t < (last (0, 0, 0, 0) l).1) (h3 : l.length = 40) : apf l t u a = 14 := by unfold apf; rw [if_neg (by simp [h]), if_neg h2, if_pos h3]
theorem apf0 {l : List R} {t u a : Int} (h : vr t u a = true) (h2 : ¬ t < (last (0, 0, 0, 0) l).1) (h3 : l.length ≠ 40) : apf l t u a = 0 := by unfold apf; rw [if_neg (by simp [h]), if_neg h2, if_neg h3]
theorem J2_bad {l : List R} {c d t u a x : Int} {K : Int -> Int -> List R -> Prop} (hc : c ≠ 0) (hK : K c (-2) []) : L.a2_J2 l c d t u a x K := ⟨cond_t (by simpa using hc) hK⟩
theorem J1_ok {l : List R} {t u a la d : Int} (hl : l.length <= 40) (hla : la = (last (0, 0, 0, 0) l).1) (hd : d = (last (0, 0, 0, 0) l).2.2.2) (hdg : dg d) {K : List R -> Int -> Int -> Prop}
  (hK : if apf l t u a = 0 then K (l ++ [(t, u, a, ch (last (0, 0, 0, 0) l).2.2.2 t u a)]) 0 0 else K [] (apf l t u a) (-2)) : L.a2_J1 l t u a la d K := by
 have fin : ∀ r : Int, ∀ K' : List R -> Prop, K' (l ++ [(t, u, a, r)]) -> L.c7 l (fun r2 => fits (r2.length + ([(t, (u, (a, r)))] : List R).length) /\ K' (r2 ++ [(t, (u, (a, r)))])) := fun r K' h =>
  Clone_ok (by omega) ⟨fits_of (by simp; omega), h⟩
 constructor
 unfold L.a2_J1_B
 refine inRange_ok ?_
 subst hla hd
 cases h1 : vr t u a with
 | false => rw [apf3 h1, if_neg (by decide)] at hK; exact cond_t rfl (J2_bad (by decide) hK)
 | true =>
  refine cond_f rfl ?_
  by_cases h2 : t < (last (0, 0, 0, 0) l).1
  · rw [apf16 h1 h2, if_neg (by decide)] at hK
    exact cond_t (by simpa using h2) (J2_bad (by decide) hK)
  · refine cond_f (by simpa using h2) ?_
    by_cases h3 : l.length = 40
    · rw [apf14 h1 h2 h3, if_neg (by decide)] at hK
      exact cond_t (by simp; omega) (J2_bad (by decide) hK)
    · rw [apf0 h1 h2 h3, if_pos rfl] at hK
      refine cond_f (by simp; omega) ⟨cond_f (by decide) (chain_ok hdg h1 ?_)⟩
      exact ⟨fin _ (fun x => K x 0 0) hK, fin _ (fun x => K x 0 0) hK, fin _ (fun x => K x 0 0) hK⟩
theorem Append_ok {l : List R} {t u a : Int} (hv : logf l = (0, 0)) {K : List R -> Int -> Int -> Prop}
  (hK : if apf l t u a = 0 then K (l ++ [(t, u, a, ch (last (0, 0, 0, 0) l).2.2.2 t u a)]) 0 0 else K [] (apf l t u a) (-2)) : L.a2 l t u a K := by
 have hlen := logf_len hv
 have hlast := last_dg (p := (0, 0, 0, 0)) (by unfold dg; decide) (logf_lf hv)
 constructor
 unfold L.a2_B
 refine Validate_ok (cond_f (fault0 hv) ?_)
 by_cases hne : l = []
 · subst hne
   exact cond_f (by simp) (J1_ok hlen rfl rfl (by unfold dg; decide) hK)
 · have hpos : 0 < l.length := List.length_pos_iff.2 hne
   refine cond_t (by simp; omega) ?_
   rw [i64_id (by omega) (by omega)]
   refine ⟨inB_of (by omega) (by omega), ?_⟩
   have e : ((l.length : Int) - 1).toNat = l.length - 1 := by omega
   rw [e, <- last_getD (p := (0, 0, 0, 0)) hne]
   exact J1_ok hlen rfl rfl hlast hK
theorem dg0 : dg 0 := by unfold dg; decide
theorem eqt {a b : Int} (h : a = b) : (a == b) = true := by simp [h]
theorem eqf {a b : Int} (h : a ≠ b) : (a == b) = false := by simp [h]
theorem leaves_loop {l : List R} (hl : l.length <= 40) {K : List Int -> Prop} (hK : K (l.map fun r => r.2.2.2)) : ∀ (fu i : Nat), i <= l.length -> l.length - i < fu -> L.b5_L1_R l (l.length : Int) fu i ((l.take i).map fun r => r.2.2.2) K
 | 0, i, _, h => by omega
 | fu + 1, i, hi, h => by
  show L.b5_L1_b l (l.length : Int) i _ _ _
  unfold L.b5_L1_b
  rcases Nat.lt_or_ge i l.length with g | g
  · have ih := leaves_loop hl hK fu (i + 1) (by omega) (by omega)
    rw [take_snoc ((0, 0, 0, 0) : R) g, List.map_append] at ih
    refine cond_t (by simp; omega) ⟨inB_of (by omega) (by omega), fits_of (by simp; omega), ?_⟩
    rw [i64_id (by omega) (by omega)]
    exact ih
  · rw [List.take_of_length_le g]
    exact cond_f (by simp; omega) hK
theorem leaves_ok {l : List R} (hl : l.length <= 40) {K : List Int -> Prop} (hK : K (l.map fun r => r.2.2.2)) : L.b5 l K :=
 ⟨⟨⟨l.length + 1, leaves_loop hl hK _ 0 (by omega) (by omega)⟩⟩⟩
def spl : Nat -> Int -> Int -> Int
 | 0, _, k => k
 | f + 1, n, k => if 2 * k < n then spl f n (k * 2) else k
def sp (n : Int) : Int := spl 6 n 1
theorem spl_lt : ∀ (f : Nat) {n k : Int}, 1 <= k -> k < n -> 1 <= spl f n k /\ spl f n k < n
 | 0, n, k, h1, h2 => ⟨h1, h2⟩
 | f + 1, n, k, h1, h2 => by
  rw [spl]
  split
  · exact spl_lt f (by omega) (by omega)
  · exact ⟨h1, h2⟩
theorem sp_lt {n : Int} (h : 2 <= n) : 1 <= sp n /\ sp n < n := spl_lt 6 (by omega) (by omega)
theorem split_loop {n : Int} (hn : n <= 64) {K : Int -> Prop} : ∀ (f : Nat) {k : Int}, 1 <= k -> k <= 64 -> n <= k * 2 ^ (f + 1) -> K (spl f n k) -> L.a7_L1_R n (f + 1) k K
 | 0, k, h1, h2, h3, hK => by
  show L.a7_L1_b n k _ _
  unfold L.a7_L1_b
  rw [i64_id (n := (2 : Int) * k) (by omega) (by omega)]
  exact cond_f (by simp at h3 ⊢; omega) hK
 | f + 1, k, h1, h2, h3, hK => by
  show L.a7_L1_b n k _ _
  unfold L.a7_L1_b
  rw [i64_id (n := (2 : Int) * k) (by omega) (by omega)]
  rw [spl] at hK
  by_cases h : 2 * k < n
  · rw [if_pos h] at hK
    refine cond_t (by simpa using h) ?_
    rw [i64_id (by omega) (by omega)]
    refine split_loop hn f (by omega) (by omega) ?_ hK
    rw [Int.pow_succ, <- Int.mul_assoc] at h3
    rw [Int.mul_assoc, Int.mul_comm 2, <- Int.mul_assoc]; exact h3
  · rw [if_neg h] at hK
    exact cond_f (by simpa using h) hK
theorem split_ok {n : Int} (hn : n <= 64) {K : Int -> Prop} (hK : K (sp n)) : L.a7 n K :=
 ⟨⟨⟨7, split_loop hn 6 (by omega) (by omega) (by omega) hK⟩⟩⟩
def rtF : Nat -> List Int -> Int
 | 0, _ => 0
 | f + 1, l => if l.length = 0 then 0 else if l.length = 1 then l.getD 0 0 else pr (rtF f (l.take (sp l.length).toNat)) (rtF f (l.drop (sp l.length).toNat))
theorem rtF_dg : ∀ {f : Nat} {l : List Int}, (∀ x, x ∈ l -> dg x) -> dg (rtF f l)
 | 0, l, _ => by unfold dg rtF; decide
 | f + 1, l, h => by
  rw [rtF]
  split
  · unfold dg; decide
  · split
    · next h1 => exact h _ (getD_mem 0 (by omega))
    · exact pr_dg _ _
theorem root_R_ok : ∀ (f : Nat) {l : List Int} {K : Int -> Prop}, l.length <= f -> l.length <= 64 -> (∀ x, x ∈ l -> dg x) -> K (rtF f l) -> L.c1_R (f + 1) l K
 | 0, l, K, hf, h64, hd, hK => by
  show L.c1_B l _ _
  unfold L.c1_B
  exact cond_t (eqt (by omega)) hK
 | f + 1, l, K, hf, h64, hd, hK => by
  show L.c1_B l _ _
  unfold L.c1_B
  rw [rtF] at hK
  by_cases h0 : l.length = 0
  · rw [if_pos h0] at hK
    exact cond_t (eqt (by omega)) hK
  · rw [if_neg h0] at hK
    refine cond_f (eqf (by omega)) ?_
    by_cases h1 : l.length = 1
    · rw [if_pos h1] at hK
      exact cond_t (eqt (by omega)) ⟨inB_of (by omega) (by omega), hK⟩
    · rw [if_neg h1] at hK
      refine cond_f (eqf (by omega)) (split_ok (by omega) ?_)
      obtain ⟨s1, s2⟩ := sp_lt (n := (l.length : Int)) (by omega)
      refine ⟨⟨by omega, by omega⟩, ?_⟩
      refine root_R_ok f (by simp; omega) (by simp; omega) (fun x hx => hd x (List.mem_of_mem_take hx)) ⟨⟨by omega, by omega⟩, ?_⟩
      refine root_R_ok f (by simp; omega) (by simp; omega) (fun x hx => hd x (List.mem_of_mem_drop hx)) ?_
      exact tpair_ok (rtF_dg fun x hx => hd x (List.mem_of_mem_take hx)) (rtF_dg fun x hx => hd x (List.mem_of_mem_drop hx)) hK
theorem root_ok {f : Nat} {l : List Int} {K : Int -> Prop} (h1 : l.length <= f) (h2 : l.length <= 64) (h3 : ∀ x, x ∈ l -> dg x) (hK : K (rtF f l)) : L.c1 l K := ⟨⟨f + 1, root_R_ok f h1 h2 h3 hK⟩⟩
def nx (p : List Int) (b : Bool) : Int × List Int × Bool := if p.length = 0 then (0, p, true) else (p.getD 0 0, p.drop 1, b)
theorem rnext_ok {p : List Int} {b : Bool} {K : Int -> List Int -> Bool -> Prop} (hK : K (nx p b).1 (nx p b).2.1 (nx p b).2.2) : L.c3 p b K := by
 constructor
 unfold L.c3_B
 unfold nx at hK
 by_cases h : p.length = 0
 · rw [if_pos h] at hK
   exact cond_t (eqt (by omega)) hK
 · rw [if_neg h] at hK
   exact cond_f (eqf (by omega)) ⟨inB_of (by omega) (by omega), ⟨by omega, by omega⟩, hK⟩
theorem nx_dg {p : List Int} {b : Bool} (h : ∀ x, x ∈ p -> dg x) : dg (nx p b).1 /\ ∀ x, x ∈ (nx p b).2.1 -> dg x := by
 unfold nx
 split
 · exact ⟨dg0, h⟩
 · exact ⟨h _ (getD_mem 0 (by omega)), fun x hx => h x (List.mem_of_mem_drop hx)⟩
def dgs (index : Int) : Nat -> List Int -> Int × Int
 | _, [] => (0, 0)
 | i, x :: l => if vd x = false then (3, index + i) else dgs index (i + 1) l
theorem digests_loop {index : Int} {l : List Int} (h0 : 0 <= index /\ index <= 100) (hl : l.length <= 64) {K : Int -> Int -> Prop} : ∀ (fu i : Nat), i <= l.length -> l.length - i < fu -> K (dgs index i (l.drop i)).1 (dgs index i (l.drop i)).2 -> L.b4_L1_R index l (l.length : Int) fu i (K 0 0) K
 | 0, i, _, h, _ => by omega
 | fu + 1, i, hi, h, hK => by
  show L.b4_L1_b index l (l.length : Int) i _ _ _
  unfold L.b4_L1_b
  rcases Nat.lt_or_ge i l.length with g | g
  · rw [drop_cons (0 : Int) g, dgs] at hK
    refine cond_t (by simp; omega) ⟨inB_of (by omega) (by omega), isDigest_ok ?_⟩
    have e : l.getD (i : Int).toNat 0 = l.getD i 0 := rfl
    rw [e]
    cases hv : vd (l.getD i 0) with
    | false =>
     rw [hv, if_pos rfl] at hK
     refine cond_t rfl ?_
     rw [i64_id (by omega) (by omega)]; exact hK
    | true =>
     rw [hv, if_neg (by simp)] at hK
     refine cond_f rfl ?_
     rw [i64_id (by omega) (by omega)]
     exact digests_loop h0 hl fu (i + 1) (by omega) (by omega) hK
  · rw [List.drop_eq_nil_of_le g] at hK
    exact cond_f (by simp; omega) hK
theorem dgs_all {index : Int} : ∀ {l : List Int} {i : Nat}, (∀ x, x ∈ l -> dg x) -> dgs index i l = (0, 0)
 | [], _, _ => rfl
 | x :: l, i, h => by
  rw [dgs, if_neg (by simp [vd_iff.2 (h x (by simp))])]
  exact dgs_all fun x hx => h x (by simp [hx])
def ck (index : Int) (l : List Int) : Int × Int := if 64 < l.length then (2, -1) else dgs index 0 l
theorem check_ok {l : List Int} {K : Int -> Int -> Prop} (hK : K (ck 0 l).1 (ck 0 l).2) : L.d4 l K := by
 constructor
 unfold L.d4_B
 unfold ck at hK
 by_cases h : 64 < l.length
 · rw [if_pos h] at hK; exact cond_t (by simp; omega) hK
 · rw [if_neg h] at hK
   exact cond_f (by simp; omega) ⟨⟨⟨l.length + 1, digests_loop (by omega) (by omega) _ 0 (by omega) (by omega) hK⟩⟩⟩
theorem checkProof_ok {l : List Int} {K : Int -> Int -> Prop} (hK : K (ck 4 l).1 (ck 4 l).2) : L.d8 l K := by
 constructor
 unfold L.d8_B
 unfold ck at hK
 by_cases h : 64 < l.length
 · rw [if_pos h] at hK; exact cond_t (by simp; omega) hK
 · rw [if_neg h] at hK
   exact cond_f (by simp; omega) ⟨⟨⟨l.length + 1, digests_loop (by omega) (by omega) _ 0 (by omega) (by omega) hK⟩⟩⟩
theorem ck_of {index : Int} {l : List Int} (h : l.length <= 64) (hd : ∀ x, x ∈ l -> dg x) : ck index l = (0, 0) := by
 unfold ck; rw [if_neg (by omega)]; exact dgs_all hd
theorem Root_ok {l : List Int} (h : l.length <= 64) (hd : ∀ x, x ∈ l -> dg x) {K : Int -> Int -> Int -> Prop} (hK : K (rtF 64 l) 0 0) : L.e1 l K := by
 constructor
 unfold L.e1_B
 exact check_ok (by rw [ck_of h hd]; exact cond_f rfl (root_ok h h hd hK))
def big (n : Nat) : Prop := n <= 9223372036854775807
theorem Equal_loop {a b : List Int} (hl : big a.length) (he : a.length = b.length) {K : Bool -> Prop} : ∀ (fu i : Nat), i <= a.length -> a.length - i < fu -> K (decide (a.drop i = b.drop i)) -> L.a9_L1_R a b fu i (K true) K
 | 0, i, _, h, _ => by omega
 | fu + 1, i, hi, h, hK => by
  show L.a9_L1_b a b i _ _ _
  unfold L.a9_L1_b
  unfold big at hl
  rcases Nat.lt_or_ge i a.length with g | g
  · rw [drop_cons (0 : Int) g, drop_cons (0 : Int) (l := b) (by omega)] at hK
    refine cond_t (by simp; omega) ⟨inB_of (by omega) (by omega), inB_of (by omega) (by omega), ?_⟩
    have e : ∀ l : List Int, l.getD (i : Int).toNat 0 = l.getD i 0 := fun _ => rfl
    rw [e, e]
    by_cases h1 : a.getD i 0 = b.getD i 0
    · refine cond_f (by rw [h1]; simp) ?_
      rw [i64_id (by omega) (by omega)]
      refine Equal_loop hl he fu (i + 1) (by omega) (by omega) ?_
      rw [h1] at hK
      simpa using hK
    · refine cond_t (by simpa using h1) ?_
      have : decide (a.getD i 0 :: a.drop (i + 1) = b.getD i 0 :: b.drop (i + 1)) = false := by simp; intro h2; exact absurd h2 h1
      rw [this] at hK; exact hK
  · rw [List.drop_eq_nil_of_le g, List.drop_eq_nil_of_le (by omega)] at hK
    exact cond_f (by simp; omega) (by simpa using hK)
theorem Equal_ok {a b : List Int} (hl : big a.length) {K : Bool -> Prop} (hK : K (decide (a = b))) : L.a9 a b K := by
 constructor
 unfold L.a9_B
 by_cases h : a.length = b.length
 · refine cond_f (by simp; omega) ⟨⟨a.length + 1, Equal_loop hl h _ 0 (by omega) (by omega) ?_⟩⟩
   simpa using hK
 · refine cond_t (by simp; omega) ?_
   have : decide (a = b) = false := by simp; intro e; exact h (by rw [e])
   rw [this] at hK; exact hK
def chains (l : List R) : List Int := l.map fun r => r.2.2.2
theorem chains_len (l : List R) : (chains l).length = l.length := by simp [chains]
theorem chains_dg {l : List R} (h : logf l = (0, 0)) : ∀ x, x ∈ chains l -> dg x := by
 intro x hx
 obtain ⟨r, hr, rfl⟩ := List.mem_map.1 hx
 exact (lf_mem (logf_lf h) r hr).1
theorem Checkpoint_ok {l : List R} (h : logf l = (0, 0)) {K : Int -> Int -> Int -> Prop} (hK : K (rtF 64 (chains l)) 0 0) : L.c6 l K := by
 have hl := logf_len h
 constructor
 unfold L.c6_B
 exact Validate_ok (cond_f (fault0 h) (leaves_ok hl (Root_ok (by rw [chains_len]; omega) (chains_dg h) hK)))
theorem Checkpoint_bad {l : List R} (h : logf l ≠ (0, 0)) {K : Int -> Int -> Int -> Prop} (hK : K 0 (logf l).1 (logf l).2) : L.c6 l K := by
 constructor
 unfold L.c6_B
 exact Validate_ok (cond_t (fault1 h) hK)
end Au
end Go.Proofs.YtnpjonhoihbaeaaGreat
namespace Go.Proofs.YtnpjonhoihbaeaaGreat
open Eng
namespace Au
theorem rtF_fuel : ∀ (f g : Nat) {l : List Int}, l.length <= f -> l.length <= g -> rtF f l = rtF g l
 | 0, 0, _, _, _ => rfl
 | 0, g + 1, l, h, _ => by rw [rtF, rtF, if_pos (by omega)]
 | f + 1, 0, l, _, h => by rw [rtF, rtF, if_pos (by omega)]
 | f + 1, g + 1, l, h1, h2 => by
  rw [rtF, rtF]
  split
  · rfl
  · split
    · rfl
    · obtain ⟨s1, s2⟩ := sp_lt (n := (l.length : Int)) (by omega)
      rw [rtF_fuel f g (l := l.take (sp l.length).toNat) (by simp; omega) (by simp; omega), rtF_fuel f g (l := l.drop (sp l.length).toNat) (by simp; omega) (by simp; omega)]
theorem spl_ge : ∀ (f : Nat) {n k : Int}, 1 <= k -> k <= spl f n k
 | 0, n, k, _ => Int.le_refl _
 | f + 1, n, k, h => by
  rw [spl]
  split
  · have := spl_ge f (n := n) (k := k * 2) (by omega)
    omega
  · exact Int.le_refl _
theorem spl_same : ∀ (f : Nat) {n m k : Int}, 1 <= k -> spl f n k < m -> m <= n -> spl f m k = spl f n k
 | 0, n, m, k, _, _, _ => rfl
 | f + 1, n, m, k, h1, h2, h3 => by
  rw [spl] at h2 ⊢
  rw [spl]
  split at h2
  · next h =>
    have := spl_ge f (n := n) (k := k * 2) (by omega)
    rw [if_pos (by omega), if_pos h]
    exact spl_same f (by omega) h2 h3
  · next h => rw [if_neg (by omega), if_neg h]
theorem sp_same {n m : Int} (h : sp n < m) (h2 : m <= n) : sp m = sp n := spl_same 6 (by omega) h h2
def csF : Nat -> List Int -> Nat -> Bool -> List Int
 | 0, _, _, _ => []
 | f + 1, l, m, kn => if m = l.length then (if kn = true then [] else [rtF f.succ l]) else if m <= (sp l.length).toNat then csF f (l.take (sp l.length).toNat) m kn ++ [rtF f (l.drop (sp l.length).toNat)] else csF f (l.drop (sp l.length).toNat) (m - (sp l.length).toNat) false ++ [rtF f (l.take (sp l.length).toNat)]
theorem csF_len : ∀ (f : Nat) (l : List Int) (m : Nat) (kn : Bool), (csF f l m kn).length <= f
 | 0, _, _, _ => by simp [csF]
 | f + 1, l, m, kn => by
  rw [csF]
  split
  · split <;> simp
  · split
    · have := csF_len f (l.take (sp l.length).toNat) m kn; simp; omega
    · have := csF_len f (l.drop (sp l.length).toNat) (m - (sp l.length).toNat) false; simp; omega
theorem csF_dg : ∀ (f : Nat) (l : List Int) (m : Nat) (kn : Bool), (∀ x, x ∈ l -> dg x) -> ∀ x, x ∈ csF f l m kn -> dg x
 | 0, _, _, _, _, x, hx => by simp [csF] at hx
 | f + 1, l, m, kn, hd, x, hx => by
  have ht : ∀ k, ∀ x, x ∈ l.take k -> dg x := fun k x hx => hd x (List.mem_of_mem_take hx)
  have hr : ∀ k, ∀ x, x ∈ l.drop k -> dg x := fun k x hx => hd x (List.mem_of_mem_drop hx)
  rw [csF] at hx
  split at hx
  · split at hx
    · simp at hx
    · rw [List.mem_singleton] at hx; rw [hx]; exact rtF_dg hd
  · split at hx
    · rcases List.mem_append.1 hx with hx | hx
      · exact csF_dg f _ _ _ (ht _) x hx
      · rw [List.mem_singleton] at hx; rw [hx]; exact rtF_dg (hr _)
    · rcases List.mem_append.1 hx with hx | hx
      · exact csF_dg f _ _ _ (hr _) x hx
      · rw [List.mem_singleton] at hx; rw [hx]; exact rtF_dg (ht _)
def coF : Nat -> Int -> Int -> Int -> Bool -> List Int -> Bool -> Int × Int × List Int × Bool
 | 0, _, _, old, _, p, b => (old, old, p, b)
 | f + 1, n, m, old, kn, p, b => if m = n then (if kn = true then (old, old, p, b) else ((nx p b).1, (nx p b).1, (nx p b).2)) else if m <= sp n then
   ((coF f (sp n) m old kn p b).1, pr (coF f (sp n) m old kn p b).2.1 (nx (coF f (sp n) m old kn p b).2.2.1 (coF f (sp n) m old kn p b).2.2.2).1, (nx (coF f (sp n) m old kn p b).2.2.1 (coF f (sp n) m old kn p b).2.2.2).2)
  else (pr (nx (coF f (n - sp n) (m - sp n) old false p b).2.2.1 (coF f (n - sp n) (m - sp n) old false p b).2.2.2).1 (coF f (n - sp n) (m - sp n) old false p b).1,
   pr (nx (coF f (n - sp n) (m - sp n) old false p b).2.2.1 (coF f (n - sp n) (m - sp n) old false p b).2.2.2).1 (coF f (n - sp n) (m - sp n) old false p b).2.1,
   (nx (coF f (n - sp n) (m - sp n) old false p b).2.2.1 (coF f (n - sp n) (m - sp n) old false p b).2.2.2).2)
theorem coF_dg : ∀ (f : Nat) (n m old : Int) (kn : Bool) (p : List Int) (b : Bool), dg old -> (∀ x, x ∈ p -> dg x) -> dg (coF f n m old kn p b).1 /\ dg (coF f n m old kn p b).2.1 /\ ∀ x, x ∈ (coF f n m old kn p b).2.2.1 -> dg x
 | 0, n, m, old, kn, p, b, hl, hp => ⟨hl, hl, hp⟩
 | f + 1, n, m, old, kn, p, b, hl, hp => by
  rw [coF]
  split
  · split
    · exact ⟨hl, hl, hp⟩
    · exact ⟨(nx_dg hp).1, (nx_dg hp).1, (nx_dg hp).2⟩
  · split
    · have h := coF_dg f (sp n) m old kn p b hl hp
      exact ⟨h.1, pr_dg _ _, (nx_dg h.2.2).2⟩
    · have h := coF_dg f (n - sp n) (m - sp n) old false p b hl hp
      exact ⟨pr_dg _ _, pr_dg _ _, (nx_dg h.2.2).2⟩
theorem continues : ∀ (f : Nat) {l : List Int} {m : Nat} {old : Int} (kn : Bool) (rest : List Int) (b : Bool), l.length <= f -> 1 <= m -> m <= l.length -> (kn = true -> old = rtF f (l.take m)) -> coF f l.length m old kn (csF f l m kn ++ rest) b = (rtF f (l.take m), rtF f l, rest, b)
 | 0, l, m, old, kn, rest, b, hf, h1, h2, ho => by omega
 | f + 1, l, m, old, kn, rest, b, hf, h1, h2, ho => by
  rw [coF, csF]
  by_cases he : m = l.length
  · rw [if_pos (by omega), if_pos he]
    have ht : l.take m = l := by rw [he, List.take_length]
    rw [ht] at ho ⊢
    cases kn with
    | true => rw [if_pos rfl, if_pos rfl, ho rfl]; rfl
    | false =>
     rw [if_neg (by simp), if_neg (by simp)]
     simp [nx]
  · rw [if_neg (by omega), if_neg he]
    obtain ⟨s1, s2⟩ := sp_lt (n := (l.length : Int)) (by omega)
    have hlen : (l.take (sp l.length).toNat).length = (sp l.length).toNat := by simp; omega
    have hlen2 : (l.drop (sp l.length).toNat).length = l.length - (sp l.length).toNat := by simp
    have hR : rtF (f + 1) l = pr (rtF f (l.take (sp l.length).toNat)) (rtF f (l.drop (sp l.length).toNat)) := by
     rw [rtF, if_neg (by omega), if_neg (by omega)]
    by_cases hk : m <= (sp l.length).toNat
    · rw [if_pos hk, if_pos (by omega)]
      have htt : (l.take (sp l.length).toNat).take m = l.take m := by rw [List.take_take, Nat.min_eq_left hk]
      have hfu : rtF f (l.take m) = rtF (f + 1) (l.take m) := rtF_fuel _ _ (by simp; omega) (by simp; omega)
      have ih := continues f (l := l.take (sp l.length).toNat) (m := m) (old := old) kn ([rtF f (l.drop (sp l.length).toNat)] ++ rest) b (by omega) h1 (by omega) (by rw [htt, hfu]; exact ho)
      rw [hlen, show (((sp l.length).toNat : Nat) : Int) = sp l.length from by omega, htt, hfu] at ih
      rw [List.append_assoc, ih, hR]
      simp [nx]
    · rw [if_neg hk, if_neg (by omega)]
      have hfu : rtF (f + 1) (l.take m) = pr (rtF f (l.take (sp l.length).toNat)) (rtF f ((l.drop (sp l.length).toNat).take (m - (sp l.length).toNat))) := by
       have hm : (l.take m).length = m := by simp; omega
       have hs : sp ((l.take m).length : Int) = sp (l.length : Int) := by rw [hm]; exact sp_same (by omega) (by omega)
       rw [rtF, if_neg (by omega), if_neg (by omega), hs, List.take_take, Nat.min_eq_left (by omega), List.drop_take]
      have ih := continues f (l := l.drop (sp l.length).toNat) (m := m - (sp l.length).toNat) (old := old) false ([rtF f (l.take (sp l.length).toNat)] ++ rest) b (by omega) (by omega) (by omega) (by simp)
      rw [hlen2, show ((l.length - (sp l.length).toNat : Nat) : Int) = (l.length : Int) - sp l.length from by omega, show ((m - (sp l.length).toNat : Nat) : Int) = (m : Int) - sp l.length from by omega] at ih
      rw [List.append_assoc, ih, hR, hfu]
      simp [nx]
end Au
end Go.Proofs.YtnpjonhoihbaeaaGreat
set_option maxRecDepth 100000
namespace Go.Proofs.YtnpjonhoihbaeaaGreat
open Eng
namespace Au
theorem cons_R_ok : ∀ (f : Nat) {l : List Int} {m : Nat} {kn : Bool} {K : List Int -> Prop}, l.length <= f -> f <= 63 -> 1 <= m -> m <= l.length -> (∀ x, x ∈ l -> dg x) -> K (csF f l m kn) -> L.c2_R (f + 1) l m kn K
 | 0, l, m, kn, K, hf, h64, h1, h2, hd, hK => by omega
 | f + 1, l, m, kn, K, hf, h64, h1, h2, hd, hK => by
  show L.c2_B l m kn _ _
  unfold L.c2_B
  rw [csF] at hK
  by_cases he : m = l.length
  · rw [if_pos he] at hK
    refine cond_t (eqt (by omega)) ?_
    cases kn with
    | true => rw [if_pos rfl] at hK; exact cond_t rfl hK
    | false =>
     rw [if_neg (by simp)] at hK
     exact cond_f rfl (root_ok (f := f.succ) (by omega) (by omega) hd hK)
  · rw [if_neg he] at hK
    refine cond_f (eqf (by omega)) (split_ok (by omega) ?_)
    obtain ⟨s1, s2⟩ := sp_lt (n := (l.length : Int)) (by omega)
    by_cases hk : m <= (sp l.length).toNat
    · rw [if_pos hk] at hK
      refine cond_t (by simp; omega) ⟨⟨by omega, by omega⟩, ?_⟩
      refine cons_R_ok f (by simp; omega) (by omega) h1 (by simp; omega) (fun x hx => hd x (List.mem_of_mem_take hx)) ⟨⟨by omega, by omega⟩, ?_⟩
      refine root_ok (f := f) (by simp; omega) (by simp; omega) (fun x hx => hd x (List.mem_of_mem_drop hx)) ⟨?_, hK⟩
      have := csF_len f (l.take (sp l.length).toNat) m kn
      exact fits_of (by simp; omega)
    · rw [if_neg hk] at hK
      refine cond_f (by simp; omega) ⟨⟨by omega, by omega⟩, ?_⟩
      rw [i64_id (by omega) (by omega)]
      have e : (m : Int) - sp l.length = ((m - (sp l.length).toNat : Nat) : Int) := by omega
      rw [e]
      refine cons_R_ok f (by simp; omega) (by omega) (by omega) (by simp; omega) (fun x hx => hd x (List.mem_of_mem_drop hx)) ⟨⟨by omega, by omega⟩, ?_⟩
      refine root_ok (f := f) (by simp; omega) (by simp; omega) (fun x hx => hd x (List.mem_of_mem_take hx)) ⟨?_, hK⟩
      have := csF_len f (l.drop (sp l.length).toNat) (m - (sp l.length).toNat) false
      exact fits_of (by simp; omega)
theorem ProveC_ok {l : List Int} {m : Nat} (h : l.length <= 63) (hd : ∀ x, x ∈ l -> dg x) (h1 : 1 <= m) (h2 : m <= l.length) {K : List Int -> Int -> Int -> Prop} (hK : K (csF 63 l m true) 0 0) : L.d0 l m K := by
 constructor
 unfold L.d0_B
 refine check_ok ?_
 rw [ck_of (by omega) hd]
 refine cond_f rfl (cond_f ?_ ⟨⟨64, cons_R_ok 63 h (by omega) h1 h2 hd hK⟩⟩)
 have : decide ((m : Int) < 1) = false := by simp; omega
 rw [this]; simp; omega
theorem cont_R_ok : ∀ (f : Nat) {n m old : Int} {kn : Bool} {p : List Int} {b : Bool} {K : Int -> Int -> List Int -> Bool -> Prop}, n <= f -> f <= 63 -> 1 <= m -> m <= n -> dg old -> (∀ x, x ∈ p -> dg x) ->
  K (coF f n m old kn p b).1 (coF f n m old kn p b).2.1 (coF f n m old kn p b).2.2.1 (coF f n m old kn p b).2.2.2 -> L.c0_R (f + 1) n m old kn p b K
 | 0, n, m, old, kn, p, b, K, hf, h64, h1, h2, ho, hp, hK => by omega
 | f + 1, n, m, old, kn, p, b, K, hf, h64, h1, h2, ho, hp, hK => by
  show L.c0_B n m old kn p b _ _
  unfold L.c0_B
  rw [coF] at hK
  by_cases he : m = n
  · rw [if_pos he] at hK
    refine cond_t (eqt he) ?_
    cases kn with
    | true => rw [if_pos rfl] at hK; exact cond_f rfl hK
    | false => rw [if_neg (by simp)] at hK; exact cond_t rfl (rnext_ok hK)
  · rw [if_neg he] at hK
    refine cond_f (eqf he) (split_ok (by omega) ?_)
    obtain ⟨s1, s2⟩ := sp_lt (n := n) (by omega)
    by_cases hk : m <= sp n
    · rw [if_pos hk] at hK
      refine cond_t (by simpa using hk) ?_
      have hd := coF_dg f (sp n) m old kn p b ho hp
      exact cont_R_ok f (by omega) (by omega) h1 hk ho hp (rnext_ok (tpair_ok hd.2.1 (nx_dg hd.2.2).1 hK))
    · rw [if_neg hk] at hK
      refine cond_f (by simpa using hk) ?_
      rw [i64_id (n := n - sp n) (by omega) (by omega), i64_id (n := m - sp n) (by omega) (by omega)]
      have hd := coF_dg f (n - sp n) (m - sp n) old false p b ho hp
      exact cont_R_ok f (by omega) (by omega) (by omega) (by omega) ho hp (rnext_ok (tpair_ok (nx_dg hd.2.2).1 hd.1 (tpair_ok (nx_dg hd.2.2).1 hd.2.1 hK)))
theorem VerifyC_loop {Q : Prop} {K : Bool -> Int -> Int -> Prop} (h : Q) : L.a4_L1 true true true true 0 Q K := by
 refine ⟨⟨5, ?_⟩⟩
 show L.a4_L1_b true true true true 0 _ _ _
 unfold L.a4_L1_b
 refine cond_t (by decide) ⟨inB_of (by omega) (by omega), cond_f rfl ?_⟩
 rw [i64_id (by omega) (by omega)]
 show L.a4_L1_b true true true true (0 + 1) _ _ _
 unfold L.a4_L1_b
 refine cond_t (by decide) ⟨inB_of (by omega) (by omega), cond_f rfl ?_⟩
 rw [i64_id (by omega) (by omega)]
 show L.a4_L1_b true true true true (0 + 1 + 1) _ _ _
 unfold L.a4_L1_b
 refine cond_t (by decide) ⟨inB_of (by omega) (by omega), cond_f rfl ?_⟩
 rw [i64_id (by omega) (by omega)]
 show L.a4_L1_b true true true true (0 + 1 + 1 + 1) _ _ _
 unfold L.a4_L1_b
 refine cond_t (by decide) ⟨inB_of (by omega) (by omega), cond_f rfl ?_⟩
 rw [i64_id (by omega) (by omega)]
 show L.a4_L1_b true true true true (0 + 1 + 1 + 1 + 1) _ _ _
 unfold L.a4_L1_b
 exact cond_f (by decide) h
theorem VerifyC_ok {l : List Int} {m : Nat} (h : l.length <= 63) (hd : ∀ x, x ∈ l -> dg x) (h1 : 1 <= m) (h2 : m <= l.length) {K : Bool -> Int -> Int -> Prop} (hK : K true 0 0) : L.a4 (rtF 64 (l.take m)) m (rtF 64 l) l.length (csF 63 l m true) K := by
 have d1 : dg (rtF 64 (l.take m)) := rtF_dg fun x hx => hd x (List.mem_of_mem_take hx)
 have d2 : dg (rtF 64 l) := rtF_dg hd
 have hp : ∀ x, x ∈ csF 63 l m true -> dg x := csF_dg 63 l m true hd
 have hl := csF_len 63 l m true
 have hc := continues 63 (l := l) (m := m) (old := rtF 64 (l.take m)) true [] false h h1 h2 fun _ => rtF_fuel _ _ (by simp; omega) (by simp; omega)
 rw [List.append_nil] at hc
 constructor
 unfold L.a4_B
 refine isDigest_ok (isDigest_ok ?_)
 rw [vd_iff.2 d1, vd_iff.2 d2]
 have e1 : (bif (decide ((m : Int) ≥ 1)) then (decide ((m : Int) <= (l.length : Int))) else false) = true := by simp; omega
 have e2 : (bif (decide ((l.length : Int) ≥ 1)) then (decide ((l.length : Int) <= 64)) else false) = true := by simp; omega
 rw [e1, e2]
 refine VerifyC_loop (checkProof_ok ?_)
 rw [ck_of (by omega) hp]
 refine cond_f rfl ⟨⟨64, cont_R_ok 63 (by omega) (by omega) (by omega) (by omega) d1 hp ?_⟩⟩
 rw [hc]
 refine cond_t ?_ ⟨?_⟩
 · rw [rtF_fuel 63 64 (l := l.take m) (by simp; omega) (by simp; omega), rtF_fuel 63 64 (l := l) h (by omega)]
   simp
 · exact hK
end Au
end Go.Proofs.YtnpjonhoihbaeaaGreat
set_option maxRecDepth 100000
namespace Go.Proofs.YtnpjonhoihbaeaaGreat
open Eng
namespace Ta
def chL (n k : Int) : Nat -> Int -> Int -> Option Int
 | 0, _, _ => none
 | f + 1, o, i => bif decide (i < k) then (bif i64 (i + 1) == 0 then none else chL n k f (i64 ((i64 (o * (i64 (n - i)))).tdiv (i64 (i + 1)))) (i64 (i + 1))) else some o
theorem chL_ok {n k r : Int} {K : Int -> Prop} (hK : K r) : ∀ (f : Nat) (o i : Int), chL n k f o i = some r -> L.a8_L1_R n k f o i K
 | 0, o, i, h => by cases h
 | f + 1, o, i, h => by
  show L.a8_L1_b n k o i _ _
  unfold L.a8_L1_b
  rw [chL] at h
  cases hd : decide (i < k) with
  | false =>
   rw [hd] at h
   cases h
   exact cond_f rfl hK
  | true =>
   rw [hd, cond_true] at h
   cases hz : (i64 (i + 1) == 0) with
   | true => rw [hz] at h; cases h
   | false =>
    rw [hz] at h
    exact cond_t rfl ⟨by simpa using hz, chL_ok hK f _ _ h⟩
def ch (n k : Int) : Option Int := bif (bif decide (k < 0) then true else decide (k > n)) then some 0 else chL n k 50 1 0
theorem ch_ok {n k r : Int} {K : Int -> Prop} (h : ch n k = some r) (hK : K r) : L.a8 n k K := by
 constructor
 unfold L.a8_B
 unfold ch at h
 cases hd : (bif decide (k < 0) then true else decide (k > n)) with
 | true => rw [hd] at h; cases h; exact hK
 | false => rw [hd] at h; exact ⟨⟨50, chL_ok hK 50 _ _ h⟩⟩
def tlL (g b n v x : Int) : Nat -> Int -> Int -> Option Int
 | 0, _, _ => none
 | f + 1, s, i => bif decide (i < v) then (bif decide (i ≥ x) then (match ch b i, ch g (i64 (n - i)) with
  | some r, some r1 => tlL g b n v x f (i64 (s + i64 (r * r1))) (i64 (i + 1))
  | _, _ => none) else tlL g b n v x f s (i64 (i + 1))) else some s
theorem tlL_ok {g b n v x r : Int} {K : Int -> Prop} (hK : K r) : ∀ (f : Nat) (s i : Int), tlL g b n v x f s i = some r -> L.b7_L1_R g b n v x f s i K
 | 0, o, i, h => by cases h
 | f + 1, s, i, h => by
  show L.b7_L1_b g b n v x s i _ _
  unfold L.b7_L1_b
  rw [tlL] at h
  cases hd : decide (i < v) with
  | false => rw [hd] at h; cases h; exact cond_f rfl hK
  | true =>
   rw [hd, cond_true] at h
   refine cond_t rfl ?_
   cases hx : decide (i ≥ x) with
   | false => rw [hx] at h; exact cond_f rfl (tlL_ok hK f _ _ h)
   | true =>
    rw [hx, cond_true] at h
    refine cond_t rfl ?_
    split at h
    · next r0 r1 h0 h1 => exact ch_ok h0 (ch_ok h1 (tlL_ok hK f _ _ h))
    · cases h
def fl2 (m : Int) : Option Int -> Option Int -> Option Bool
 | some r, some r1 => some (decide (i64 ((1000 : Int) * r) <= i64 (m * r1)))
 | _, _ => none
theorem fl2_some {m : Int} {o o1 : Option Int} {r : Bool} (h : fl2 m o o1 = some r) : ∃ a b, o = some a /\ o1 = some b /\ decide (i64 ((1000 : Int) * a) <= i64 (m * b)) = r := by
 cases o with
 | none => cases h
 | some a => cases o1 with
  | none => cases h
  | some b => exact ⟨a, b, rfl, rfl, Option.some.inj h⟩
def fl (F : Nat) (g b c d m : Int) : Option Bool := fl2 m (tlL (i64 (g + c)) (i64 (b + d)) (i64 (c + d)) (i64 (i64 (c + d) + 1)) d F 0 0) (ch (i64 (i64 (g + c) + i64 (b + d))) (i64 (c + d)))
theorem fl_ok {F : Nat} {g b c d m : Int} {r : Bool} {K : Bool -> Prop} (h : fl F g b c d m = some r) (hK : K r) : L.e2 g b c d m K := by
 obtain ⟨r0, r1, h0, h1, h2⟩ := fl2_some h
 subst h2
 have h3 := tlL_ok (K := fun s => L.a8 (i64 (i64 (g + c) + i64 (b + d))) (i64 (c + d)) fun r => K (decide (i64 ((1000 : Int) * s) <= i64 (m * r)))) (ch_ok h1 hK) F 0 0 h0
 exact ⟨⟨⟨⟨F, h3⟩⟩⟩⟩
def toL (F : Nat) (n m v g b : Int) : Nat -> Int -> Int -> Option Int
 | 0, _, _ => none
 | f + 1, s, i => bif decide (i < v) then (match fl F g b (i64 (n - i)) i m with
  | some r => bif !r then toL F n m v g b f i (i64 (i + 1)) else toL F n m v g b f s (i64 (i + 1))
  | none => none) else some s
theorem toL_ok {F : Nat} {n m v g b r : Int} {K : Int -> Prop} (hK : K r) : ∀ (f : Nat) (s i : Int), toL F n m v g b f s i = some r -> L.b2_L1_R n m v g b f s i K
 | 0, o, i, h => by cases h
 | f + 1, s, i, h => by
  show L.b2_L1_b n m v g b s i _ _
  unfold L.b2_L1_b
  rw [toL] at h
  cases hd : decide (i < v) with
  | false => rw [hd] at h; cases h; exact cond_f rfl hK
  | true =>
   rw [hd, cond_true] at h
   refine cond_t rfl ?_
   split at h
   · next r0 h0 =>
     refine fl_ok h0 ?_
     cases hr : !r0 with
     | true => rw [hr] at h; exact cond_t rfl (toL_ok hK f _ _ h)
     | false => rw [hr] at h; exact cond_f rfl (toL_ok hK f _ _ h)
   · cases h
theorem valid {a b : Int} {K : Int -> Int -> Prop} (h : (bif (bif (bif (bif (decide (a < 0)) then true else (decide (b < 0))) then true else (decide (a > 25))) then true else (decide (b > 25))) then true else (decide ((i64 (a + b)) > 25))) = false) (hK : K 0 0) : L.d3 a b K := ⟨cond_f h hK⟩
theorem samp {n : Int} {K : Bool -> Prop} (h : (bif (decide (n ≥ 0)) then (decide (n <= 25)) else false) = true) (hK : K true) : L.d2 n K := ⟨by unfold L.d2_B; rw [h]; exact hK⟩
theorem perm {n : Int} {K : Bool -> Prop} (h : (bif (decide (n ≥ 0)) then (decide (n < 1000)) else false) = true) (hK : K true) : L.d1 n K := ⟨by unfold L.d1_B; rw [h]; exact hK⟩
theorem tolerated {K : Int -> Int -> Int -> Prop} (hK : K 7 0 0) : L.b2 9 0 7 0 K := by
 constructor
 unfold L.b2_B
 have h : toL 50 7 0 (i64 (7 + 1)) 9 0 9 0 0 = some 7 := by decide +kernel
 have h2 := toL_ok (K := fun x => K x 0 0) hK 9 0 0 h
 exact valid (by decide +kernel) (cond_f (by decide) (samp (by decide) (cond_f rfl (perm (by decide) (cond_f rfl ⟨⟨_, h2⟩⟩)))))
theorem decided {K : Int -> Int -> Int -> Prop} (hK : K 2 0 0) : L.a3 0 0 0 0 0 50 K := by
 constructor
 unfold L.a3_B
 refine ⟨valid (by decide +kernel) (cond_f rfl (valid (by decide +kernel) (cond_f rfl (cond_f rfl (samp (by decide) (cond_f rfl (perm (by decide) ⟨cond_f rfl ⟨fl_ok (F := 50) (r := false) (by decide +kernel) (cond_f rfl (cond_f (by decide +kernel) hK))⟩⟩)))))))⟩
theorem started {K : Int -> Int -> Int -> Int -> Int -> (List ((List Int) × L.ya)) -> Prop} (hK : K 0 0 0 0 50 [([], (7, (0, 0)))]) : L.c5 7 0 0 0 50 [([], (0, (0, 0)))] K :=
 ⟨⟨inB_of (by omega) (by decide), cond_f (by decide) (cond_f (by decide) ⟨fun h => absurd h (by decide), cond_f (by decide) hK⟩)⟩⟩
theorem stepped {K : Int -> Int -> Int -> Int -> Int -> (List ((List Int) × L.ya)) -> Prop} (hK : K 0 0 0 0 50 [([], (7, (0, 0)))]) : L.c4 1 7 0 0 0 0 0 0 50 [([], (0, (0, 0)))] K := by
 constructor
 unfold L.c4_B
 constructor
 unfold L.b8_B
 exact cond_f (by decide) (cond_f (by decide) (cond_f (by decide) ⟨cond_f (by decide) (cond_f (by decide) (cond_f (by decide) (cond_t (by decide) (started hK))))⟩))
theorem versions {K : List Int -> Int -> Int -> Prop} (hK : K [7] 0 0) : L.a6 1 0 0 0 50 [(1, (7, (0, (0, 0))))] K := by
 constructor
 unfold L.a6_B
 have fin : L.a6_L1 1 [([], (7, (0, 0)))] 0 [] (fun out => K out 0 0) := by
  refine ⟨⟨2, ?_⟩⟩
  show L.a6_L1_b _ _ _ _ _ _
  unfold L.a6_L1_b
  refine cond_t (by decide) ⟨inB_of (by omega) (by decide), cond_f (by decide) ⟨by unfold fits; decide, ?_⟩⟩
  show L.a6_L1_b _ _ _ _ _ _
  unfold L.a6_L1_b
  exact cond_f (by decide +kernel) hK
 constructor
 unfold L.a1_B
 refine cond_f (by decide) (decided (cond_f (by decide) (cond_f (by decide) ?_)))
 have run : L.a1_J1 [(1, (7, (0, (0, 0))))] [([], (0, (0, 0)))] 0 0 0 50 (fun r1 m m1 => (bif (!((m == 0) && ((m1 == 0) && true))) then K ([] : List Int) m m1 else L.a6_L1 (r1.length : Int) r1 0 ([] : List Int) (fun out => K out 0 0))) := by
  constructor
  unfold L.a1_J1_B
  refine ⟨⟨2, ?_⟩⟩
  show L.a1_L1_b _ _ _ _ _ _ _ _ _ _ _
  unfold L.a1_L1_b
  refine cond_t (by decide) ⟨inB_of (by omega) (by decide), stepped (cond_f (by decide) ?_)⟩
  show L.a1_L1_b _ _ _ _ _ _ _ _ _ _ _
  unfold L.a1_L1_b
  exact cond_f (by decide +kernel) (cond_f (by decide) fin)
 exact ⟨⟨⟨by omega, by omega, by omega⟩, run⟩, ⟨by omega, by omega, by omega⟩, run⟩
theorem results {K : List Int -> Int -> Int -> Prop} (hK : K [162] 0 0) : L.d9 [[5]] 2 K := by
 constructor
 unfold L.d9_B
 constructor
 unfold L.b1_B
 refine cond_f (by decide) (cond_f (by decide) ⟨⟨2, ?_⟩⟩)
 show L.b1_L1_b _ _ _ _ _ _
 unfold L.b1_L1_b
 refine cond_t (by decide) ⟨inB_of (by omega) (by decide), ⟨cond_f (by decide) ⟨⟨⟨2, ?_⟩⟩⟩⟩⟩
 show L.b0_L1_b _ _ _ _ _ _
 unfold L.b0_L1_b
 refine cond_t (by decide) ⟨inB_of (by omega) (by decide), ⟨?_⟩⟩
 unfold L.e7_B
 refine cond_f (by decide) ?_
 show L.b0_L1_b _ _ _ _ _ _
 unfold L.b0_L1_b
 refine cond_f (by decide +kernel) (cond_f (by decide) (cond_f (by decide) ?_))
 show L.b1_L1_b _ _ _ _ _ _
 unfold L.b1_L1_b
 refine cond_f (by decide +kernel) (cond_f (by decide) ⟨⟨?_, hK⟩⟩)
 unfold Pl.C
 refine ⟨by decide, by decide, by decide, fun t ht => ?_⟩
 rw [List.mem_singleton] at ht
 subst ht
 refine ⟨by decide, fun z hz => ?_⟩
 rw [List.mem_singleton] at hz
 subst hz
 unfold Wp.inM
 decide
theorem runs {K : Bool -> Prop} (hK : K true) : L.e4 K := by
 constructor
 unfold L.e4_B
 refine tolerated (versions (results (Au.Append_ok (by decide) ?_)))
 rw [if_pos (by decide)]
 exact cond_t (by decide) (Au.Equal_ok (by unfold Au.big; decide) (cond_t (by decide) (Au.Equal_ok (by unfold Au.big; decide) hK)))
theorem chains_loop {l : List Au.R} (hl : l.length <= 40) {K : List Int -> Prop} (hK : K (Au.chains l)) : ∀ (fu i : Nat), i <= l.length -> l.length - i < fu -> L.b3_L1_R l fu i ((l.take i).map fun r => r.2.2.2) K
 | 0, i, _, h => by omega
 | fu + 1, i, hi, h => by
  show L.b3_L1_b l i _ _ _
  unfold L.b3_L1_b
  rcases Nat.lt_or_ge i l.length with g | g
  · have ih := chains_loop hl hK fu (i + 1) (by omega) (by omega)
    rw [Au.take_snoc ((0, 0, 0, 0) : Au.R) g, List.map_append] at ih
    refine cond_t (by simp; omega) ⟨inB_of (by omega) (by omega), Au.fits_of (by simp; omega), ?_⟩
    rw [i64_id (by omega) (by omega)]
    exact ih
  · rw [List.take_of_length_le g]
    exact cond_f (by simp; omega) hK
theorem law (l : List Au.R) (m : Int) (K : Bool -> Prop) (hK : K true) : L.b3 l m K := by
 constructor
 unfold L.b3_B
 refine runs (cond_f rfl ?_)
 by_cases hm : m < 1 \/ (l.length : Int) < m
 · exact cond_t (by simpa using hm) hK
 · refine cond_f (by simpa using hm) ⟨⟨by omega, by omega⟩, ?_⟩
   obtain ⟨n, rfl⟩ : ∃ n : Nat, m = n := ⟨m.toNat, by omega⟩
   rw [show ((n : Int)).toNat = n from rfl]
   by_cases hv : Au.logf l = (0, 0)
   · have hl := Au.logf_len hv
     have hp : Au.logf (l.take n) = (0, 0) := by
      unfold Au.logf
      rw [if_neg (by simp; omega)]
      exact Au.lf_take n (Au.logf_lf hv)
     have hc : Au.chains (l.take n) = (Au.chains l).take n := by unfold Au.chains; rw [List.map_take]
     have hlen := Au.chains_len l
     refine Au.Checkpoint_ok hp (Au.Checkpoint_ok hv (cond_f rfl ⟨⟨l.length + 1, ?_⟩⟩))
     refine chains_loop hl ?_ _ 0 (by omega) (by omega)
     refine Au.ProveC_ok (by omega) (Au.chains_dg hv) (by omega) (by omega) ?_
     rw [hc, <- hlen]
     exact Au.VerifyC_ok (by omega) (Au.chains_dg hv) (by omega) (by omega) hK
   · have bad : ∀ (r1 rc ri : Int), L.c6 l (fun r2 rCode1 rIndex1 => (bif (bif (rc != 0) then true else (rCode1 != 0)) then K (rCode1 != 0) else L.b3_L1 l 0 ([] : List Int) (fun chains => L.d0 chains n (fun r3 rCode2 rIndex2 => L.a4 r1 n r2 (l.length : Int) r3 (fun r4 rCode3 rIndex3 => K (bif (bif (rCode2 == 0) then (rCode3 == 0) else false) then r4 else false)))))) := by
      intro r1 rc ri
      refine Au.Checkpoint_bad hv (cond_t ?_ ?_)
      · rw [Au.logf_ne hv]; cases rc != 0 <;> rfl
      · rw [Au.logf_ne hv]; exact hK
     by_cases hp : Au.logf (l.take n) = (0, 0)
     · exact Au.Checkpoint_ok hp (bad _ _ 0)
     · exact Au.Checkpoint_bad hp (bad _ _ 0)
end Ta
theorem W_true (xs : ArgDen [(false, (.slice (.pair (.int .i64) (.pair (.int .i64) (.pair (.int .i64) (.int .i64)))))), (false, (.int .i64))]) (hw : WfAll _ xs) (K : Bool -> Prop) (hK : K true) : L.b3 xs.1 xs.2.1 K :=
 Ta.law _ _ K hK
end Go.Proofs.YtnpjonhoihbaeaaGreat
set_option maxRecDepth 100000
namespace Go.Proofs.YtnpjonhoihbaeaaGreat
open Eng Go.ChangeShapes Go.WideShapes Go.ChangeAt Go.RowKit
def W_ps : List (Bool × Ty) := [(false, (.slice (.pair (.int .i64) (.pair (.int .i64) (.pair (.int .i64) (.int .i64)))))), (false, (.int .i64))]
theorem W_sem (xs : ArgDen W_ps) (hw : WfAll W_ps xs) (_ : false = true -> bulkAll W_ps xs <= 1048576) : L.b3_S (lawArgs W_ps xs) isTrue := by
 have e : L.b3_S (lawArgs W_ps xs) isTrue = L.b3 xs.1 xs.2.1 (fun r => isTrue (.x (.bool r)) []) := by kernel_rfl
 rw [e]
 exact W_true xs hw _ rfl
theorem W_own : ownKnob Tryz.prog.godebug = none := by kernel_rfl
theorem W_laid : laidOutB Tryz.prog = true := by kernel_rfl
theorem W_spec : LawSpec Rows.topAuditLogsAreConsistentSpec Tryz.f3.params.toList.length where
 vars := rfl
 res := fun H ds h => by
  match ds, h with
  | [d1, d2], _ => rfl
 args := fun H ds h => by
  match ds, h with
  | [d1, d2], _ => rfl
 left := fun H ds h => by
  match ds, h with
  | [d1, d2], _ => rfl
theorem W_lifted (os : Os) (started : os.Started) (H : Type) (enc : TypeId × Value -> H) (F : Stop.Interp) :
  ReturnsInLeavingWide { calm := true } Tryz.checked os 3 .any (Rows.topAuditLogsAreConsistentSpec.pre6 enc Tryz.prog Tryz.f3 Rows.topAuditLogsAreConsistentRow.domain false) ((OpenSpec.ofChange Rows.topAuditLogsAreConsistentSpec).postWith enc Tryz.prog Tryz.f3 F (outsideKept [.timePasses]) false true false) := by
 refine returnsInLeavingWide_of_change_time (C := Tryz.checked) W_own started Tryz.func3
  (ChangeSpec.witness6c (enc := enc) (C := Tryz.checked) ⟨#[], #[.slice none 0 0, .int .i64 0], []⟩ 8 (by kernel_rfl) (by kernel_rfl) (by kernel_rfl) (by kernel_rfl)) ?_
 intro W base args ds gs before hval hW _ _ _
 exact law_conc (small := false) W_laid (ps := W_ps) (tb := 4) Tryz.func3 ⟨4, by kernel_rfl⟩ (by kernel_rfl) (by kernel_rfl) (by kernel_rfl) Tryz.underlying4 W_spec L.b3_ok W_sem hval hW (fun h => by cases h)
theorem TopAuditLogsAreConsistent_holds : Rows.TopAuditLogsAreConsistentSaid :=
 OpenClaim.holds_of_wide_leaving_time 3 Tryz.f3 rfl rfl rfl rfl rfl rfl rfl ⟨rfl, rfl, rfl, rfl, rfl⟩ rfl rfl rfl rfl rfl (by kernel_rfl) Tryz.func3 (by kernel_rfl)
  (of_decide_eq_true (by kernel_rfl)) (by unfold Func.isWrapper; first | (rw [if_pos (by decide +kernel)]; kernel_rfl) | (rw [if_neg (by decide +kernel)]; exact ⟨rfl, rfl⟩))
  (fun os started H enc _ F => W_lifted os started H enc F)
#print axioms TopAuditLogsAreConsistent_holds
end Go.Proofs.YtnpjonhoihbaeaaGreat

/-
  Part 5 of a proof of one law by a verified reader of the program: lifted functions, their plain specifications, the law. Conditions: none.
-/
import Derived.Test.YtkpplfghhciacaaDoorQ4
import Derived.Test.YtkpplfghhciacaaDoorProg
import Derived.WideShapes
set_option linter.unusedVariables false
set_option maxRecDepth 100000
namespace Go.Proofs.YtkpplfghhciacaaDoor
open Eng
def L.Γ_c0 : Ctx := ctxC L.Γ_a7 19 L.a7_S
theorem L.Γ_c0_ok : SoundG L.pg L.Γ_c0 := ctxC_ok L.Γ_a7_ok L.a7_ok
def L.Δ_c0 : CtxO := L.Δ_a7
theorem L.Δ_c0_ok : SoundGO L.pg L.Δ_c0 := L.Δ_a7_ok
def L.c0_L1_b (text1 : L.yb) (v24 : L.T8) (v25 : Int) (v26 : Int) (self : Int → Prop) (Kx0 : Prop) (Kr : Int → Int → Prop) : Prop :=
  (bif (decide (v26 < v25)) then (inB v26 v24.length) ∧ L.e4 text1 ((v24.getD v26.toNat (0, ([], []))).2.1) ((v24.getD v26.toNat (0, ([], []))).1) (fun r => (bif (!r) then Kr 19 v26 else self (i64 (v26 + 1)))) else Kx0)
def L.c0_L1_R (text1 : L.yb) (v24 : L.T8) (v25 : Int) : Nat → Int → (Prop) → (Int → Int → Prop) → Prop
  | 0, _, _, _ => False
  | fu + 1, v26, Kx0, Kr => L.c0_L1_b text1 v24 v25 v26 (fun v26 => L.c0_L1_R text1 v24 v25 fu v26 Kx0 Kr) Kx0 Kr
structure L.c0_L1 (text1 : L.yb) (v24 : L.T8) (v25 : Int) (v26 : Int) (Kx0 : Prop) (Kr : Int → Int → Prop) : Prop where
  out : ∃ fu, L.c0_L1_R text1 v24 v25 fu v26 Kx0 Kr
def L.c0_L1_d : LoopD := { base := 4, vecs := [], flds := [], keep := [1, 2, 5, 24, 25, 26], out := [1, 2, 5], rets := [4, 5], rv := [], rbase := 0 }
def L.c0_L1_ss : List Sh := [.ro .str, .cl 0 0, .cl 1 0, .ro L.T7, .int .i64, .int .i64]
def L.c0_L1_os : List OSh := [.cells [.ro L.T7], .cells [.int .i64, .int .i64], .cells [.int .i64, .int .i64], .cells [.int .i64, .int .i64]]
def L.c0_L1_G (vs : List V) (st : List Ob) (K : Ex → St) : Prop := L.c0_L1 (gR .str (gA vs 0)) (gR L.T7 (gA vs 3)) (gI (gA vs 4)) (gI (gA vs 5)) (K (.exit 0) (bld [1, 2, 5] [.ro .str (gR .str (gA vs 0)), .cl 0 0, .cl 1 0] 0 53) [.cells [.ro L.T7 (gR L.T7 ((oC (gD st 0)).getD 0 .any))], .cells [.xi (cI st 1 0), .xi (cI st 1 1)], .cells [.xi (cI st 2 0), .xi (cI st 2 1)], .cells [.xi (cI st 3 0), .xi (cI st 3 1)]]) (fun q0_ q1_ => K .ret (bld [4, 5] [.x (.slice none 0 0), .cl 0 0] 0 53) [.cells [.xi q0_, .xi q1_]])
def L.c0_L1_F (vs : List V) (st : List Ob) (K : Ex → St) : Prop := fitF L.c0_L1_ss L.c0_L1_os vs st (L.c0_L1_G vs st K)
theorem L.c0_L1_eq (text1 : L.yb) (v24 : L.T8) (v25 : Int) (p : L.T8) (m1 : Int) (m11 : Int) (m2 : Int) (m21 : Int) (m3 : Int) (m31 : Int) (K : Ex → St) : ∀ (fu : Nat) (v26 : Int), L.c0_L1_R text1 v24 v25 fu v26 (K (.exit 0) (bld [1, 2, 5] [.ro .str text1, .cl 0 0, .cl 1 0] 0 53) [.cells [.ro L.T7 p], .cells [.xi m1, .xi m11], .cells [.xi m2, .xi m21], .cells [.xi m3, .xi m31]]) (fun q0_ q1_ => K .ret (bld [4, 5] [.x (.slice none 0 0), .cl 0 0] 0 53) [.cells [.xi q0_, .xi q1_]]) = iterL (stepL (exec L.pg (CC L.pg L.Γ_c0 L.Δ_c0) (drawD L.pg L.Γ_c0 L.Δ_c0) .leaf (sub [true, true, true, false, true, false, false] (codeOf Tryd.f7))) 4 L.c0_L1_d K) fu (bld L.c0_L1_d.keep [.ro .str text1, .cl 0 0, .cl 1 0, .ro L.T7 v24, .xi v25, .xi v26] 0 53) [.cells [.ro L.T7 p], .cells [.xi m1, .xi m11], .cells [.xi m2, .xi m21], .cells [.xi m3, .xi m31]] := by
  intro fu
  induction fu with
  | zero => intros; rfl
  | succ fu ih =>
    intro v26
    have e : (fun v26 => L.c0_L1_R text1 v24 v25 fu v26 (K (.exit 0) (bld [1, 2, 5] [.ro .str text1, .cl 0 0, .cl 1 0] 0 53) [.cells [.ro L.T7 p], .cells [.xi m1, .xi m11], .cells [.xi m2, .xi m21], .cells [.xi m3, .xi m31]]) (fun q0_ q1_ => K .ret (bld [4, 5] [.x (.slice none 0 0), .cl 0 0] 0 53) [.cells [.xi q0_, .xi q1_]])) = fun v26 => iterL (stepL (exec L.pg (CC L.pg L.Γ_c0 L.Δ_c0) (drawD L.pg L.Γ_c0 L.Δ_c0) .leaf (sub [true, true, true, false, true, false, false] (codeOf Tryd.f7))) 4 L.c0_L1_d K) fu (bld L.c0_L1_d.keep [.ro .str text1, .cl 0 0, .cl 1 0, .ro L.T7 v24, .xi v25, .xi v26] 0 53) [.cells [.ro L.T7 p], .cells [.xi m1, .xi m11], .cells [.xi m2, .xi m21], .cells [.xi m3, .xi m31]] := by
      funext v26; exact ih v26
    show L.c0_L1_b text1 v24 v25 v26 (fun v26 => L.c0_L1_R text1 v24 v25 fu v26 (K (.exit 0) (bld [1, 2, 5] [.ro .str text1, .cl 0 0, .cl 1 0] 0 53) [.cells [.ro L.T7 p], .cells [.xi m1, .xi m11], .cells [.xi m2, .xi m21], .cells [.xi m3, .xi m31]]) (fun q0_ q1_ => K .ret (bld [4, 5] [.x (.slice none 0 0), .cl 0 0] 0 53) [.cells [.xi q0_, .xi q1_]])) (K (.exit 0) (bld [1, 2, 5] [.ro .str text1, .cl 0 0, .cl 1 0] 0 53) [.cells [.ro L.T7 p], .cells [.xi m1, .xi m11], .cells [.xi m2, .xi m21], .cells [.xi m3, .xi m31]]) (fun q0_ q1_ => K .ret (bld [4, 5] [.x (.slice none 0 0), .cl 0 0] 0 53) [.cells [.xi q0_, .xi q1_]]) = _
    rw [e]
    kernel_rfl
theorem L.c0_L1_imp (vs : List V) (st : List Ob) (K : Ex → St) (h : L.c0_L1_G vs st K) : ∃ fu, iterL (stepL (exec L.pg (CC L.pg L.Γ_c0 L.Δ_c0) (drawD L.pg L.Γ_c0 L.Δ_c0) .leaf (sub [true, true, true, false, true, false, false] (codeOf Tryd.f7))) 4 L.c0_L1_d K) fu (bld L.c0_L1_d.keep (mkL L.c0_L1_ss 0 vs) 0 53) (mkOs L.c0_L1_os 0 st) :=
  exMap (fun fu h => @Eq.mp _ _ (Eq.trans (L.c0_L1_eq (gR .str (gA vs 0)) (gR L.T7 (gA vs 3)) (gI (gA vs 4)) (gR L.T7 ((oC (gD st 0)).getD 0 .any)) (cI st 1 0) (cI st 1 1) (cI st 2 0) (cI st 2 1) (cI st 3 0) (cI st 3 1) K fu (gI (gA vs 5))) (by kernel_rfl)) h) (L.c0_L1.out h)
theorem L.c0_L1_ok : AnnOk L.pg (CC L.pg L.Γ_c0 L.Δ_c0) (drawD L.pg L.Γ_c0 L.Δ_c0) 0 (.lift L.c0_L1_d 53 L.c0_L1_F) (.loop (sub [true, true, true, false, true, false, false] (codeOf Tryd.f7))) :=
  lift_ok (an := .leaf) (ss := L.c0_L1_ss) (os := L.c0_L1_os) (G := L.c0_L1_G) rfl (Nat.le_of_ble_eq_true rfl) (annOk_leaf _) (L.c0_L1_imp)
def L.c0_B (p_Hunks : L.T8) (text : L.yb) (K : L.yb → Int → Int → Prop) : Prop :=
  L.b5 p_Hunks (fun rCode rIndex => (bif (!((rCode == 0) && ((rIndex == 0) && true))) then K ([] : List ByteArray) rCode rIndex else L.d9 text (-2) (fun rCode1 rIndex1 => (bif (!((rCode1 == 0) && ((rIndex1 == 0) && true))) then K ([] : List ByteArray) rCode1 rIndex1 else L.c0_L1 text p_Hunks (p_Hunks.length : Int) 0 (L.a7 p_Hunks text 0 (text.length : Int) (fun r => (bif (decide ((r.length : Int) > 120)) then K ([] : List ByteArray) 10 (-1) else K r 0 0))) (fun p r1 => K ([] : List ByteArray) p r1)))))
structure L.c0 (p_Hunks : L.T8) (text : L.yb) (K : L.yb → Int → Int → Prop) : Prop where
  out : L.c0_B p_Hunks text K
def L.c0_ss : List Sh := [.agg [.ro L.T7], .ro .str]
def L.c0_G (vs : List V) (K : V → List Ob → Prop) : Prop := L.c0 (gR L.T7 ((gC (gA vs 0)).getD 0 .any)) (gR .str (gA vs 1)) (fun r0 r1 r2 => K (.tup [.vec 0, .agg [.xi r1, .xi r2]]) [.vec .str 0 r0])
def L.c0_S : SemF := fun args K => argF L.c0_ss args fun a => L.c0_G a K
theorem L.c0_eq (p_Hunks : L.T8) (text : L.yb) (K : V → List Ob → Prop) : run L.pg L.Γ_c0 L.Δ_c0 (.node .leaf (.node .leaf (.node .leaf (.node (.node .leaf (.lift L.c0_L1_d 53 L.c0_L1_F)) .leaf)))) (.tup [.sl .str, .any]) Tryd.f7 [.agg [.ro L.T7 p_Hunks], .ro .str text] K = L.c0_B p_Hunks text (fun r0 r1 r2 => K (.tup [.vec 0, .agg [.xi r1, .xi r2]]) [.vec .str 0 r0]) := by
  kernel_rfl
theorem L.c0_imp (vs : List V) (K : V → List Ob → Prop) : Imp (L.c0_G vs K) (run L.pg L.Γ_c0 L.Δ_c0 (.node .leaf (.node .leaf (.node .leaf (.node (.node .leaf (.lift L.c0_L1_d 53 L.c0_L1_F)) .leaf)))) (.tup [.sl .str, .any]) Tryd.f7 (mkL L.c0_ss 0 vs) K) :=
  Imp.of (Eq.trans (b := run L.pg L.Γ_c0 L.Δ_c0 (.node .leaf (.node .leaf (.node .leaf (.node (.node .leaf (.lift L.c0_L1_d 53 L.c0_L1_F)) .leaf)))) (.tup [.sl .str, .any]) Tryd.f7 [.agg [.ro L.T7 (gR L.T7 ((gC (gA vs 0)).getD 0 .any))], .ro .str (gR .str (gA vs 1))] K) (by kernel_rfl) (L.c0_eq (gR L.T7 ((gC (gA vs 0)).getD 0 .any)) (gR .str (gA vs 1)) K)) fun h => (L.c0.out h)
theorem L.c0_ok : SoundFn L.pg 7 L.c0_S :=
  fn_ok (sem := run L.pg L.Γ_c0 L.Δ_c0 (.node .leaf (.node .leaf (.node .leaf (.node (.node .leaf (.lift L.c0_L1_d 53 L.c0_L1_F)) .leaf)))) (.tup [.sl .str, .any]) Tryd.f7) (ss := L.c0_ss) (G := L.c0_G) (run_ok L.Γ_c0_ok L.Δ_c0_ok Tryd.func7 (ann := (.node .leaf (.node .leaf (.node .leaf (.node (.node .leaf (.lift L.c0_L1_d 53 L.c0_L1_F)) .leaf))))) ⟨(annOk_leaf _), ⟨(annOk_leaf _), ⟨(annOk_leaf _), ⟨⟨(annOk_leaf _), L.c0_L1_ok⟩, (annOk_leaf _)⟩⟩⟩⟩) L.c0_imp
def L.Γ_d6 : Ctx := ctxC L.Γ_c0 7 L.c0_S
theorem L.Γ_d6_ok : SoundG L.pg L.Γ_d6 := ctxC_ok L.Γ_c0_ok L.c0_ok
def L.Δ_d6 : CtxO := L.Δ_c0
theorem L.Δ_d6_ok : SoundGO L.pg L.Δ_d6 := L.Δ_c0_ok
def L.d6_B (path : ByteArray) (p : L.T8) (K : L.T2 → Prop) : Prop :=
  K ([(4, (path, (L.str1, (([] : List ByteArray), p))))] : List (Int × (ByteArray × (ByteArray × (L.yb × L.T8)))))
structure L.d6 (path : ByteArray) (p : L.T8) (K : L.T2 → Prop) : Prop where
  out : L.d6_B path p K
def L.d6_ss : List Sh := [.str, .agg [.ro L.T7]]
def L.d6_os : List OSh := []
def L.d6_G (vs : List V) (st : List Ob) (K : V → List Ob → Prop) : Prop := L.d6 (gS (gA vs 0)) (gR L.T7 ((gC (gA vs 1)).getD 0 .any)) (fun r0 => K (.agg [.vec 0]) [.vec L.T1 0 r0])
def L.d6_S : SemO := fun args st K => argO L.d6_ss L.d6_os args st fun a s => L.d6_G a s K
theorem L.d6_eq (path : ByteArray) (p : L.T8) (K : V → List Ob → Prop) : runH L.pg L.Γ_d6 L.Δ_d6 .leaf (.agg [(.sl L.T1)]) [] Tryd.f14 false 0 [.x (.string path), .agg [.ro L.T7 p]] [] K = L.d6_B path p (fun r0 => K (.agg [.vec 0]) [.vec L.T1 0 r0]) := by
  kernel_rfl
theorem L.d6_imp (vs : List V) (st : List Ob) (K : V → List Ob → Prop) : Imp (L.d6_G vs st K) (runH L.pg L.Γ_d6 L.Δ_d6 .leaf (.agg [(.sl L.T1)]) [] Tryd.f14 false 0 (mkL L.d6_ss 0 vs) (mkOs L.d6_os 0 st) K) :=
  Imp.of (Eq.trans (b := runH L.pg L.Γ_d6 L.Δ_d6 .leaf (.agg [(.sl L.T1)]) [] Tryd.f14 false 0 [.x (.string (gS (gA vs 0))), .agg [.ro L.T7 (gR L.T7 ((gC (gA vs 1)).getD 0 .any))]] [] K) (by kernel_rfl) (L.d6_eq (gS (gA vs 0)) (gR L.T7 ((gC (gA vs 1)).getD 0 .any)) K)) fun h => (L.d6.out h)
theorem L.d6_ok : SoundO L.pg 14 L.d6_S :=
  fnO_ok (sem := runH L.pg L.Γ_d6 L.Δ_d6 .leaf (.agg [(.sl L.T1)]) [] Tryd.f14 false 0) (ss := L.d6_ss) (os := L.d6_os) (G := L.d6_G) (runH_ok L.Γ_d6_ok L.Δ_d6_ok Tryd.func14 (ann := .leaf) rfl (annOk_leaf _)) L.d6_imp
def L.Γ_a3 : Ctx := L.Γ_d6
theorem L.Γ_a3_ok : SoundG L.pg L.Γ_a3 := L.Γ_d6_ok
def L.Δ_a3 : CtxO := ctxE L.Δ_d6 14 [.any, .agg [.ro L.T7]] L.d6_ss L.d6_os L.d6_G
theorem L.Δ_a3_ok : SoundGO L.pg L.Δ_a3 := ctxE_ok L.Δ_d6_ok L.d6_ok
def L.a3_J3_B (c3 : L.yb) (c4 : L.T8) (Kr : Int → Prop) : Prop :=
  L.b2 c3 (fun rCode rIndex => (bif (!((rCode == 0) && ((rIndex == 0) && true))) then Kr rCode else L.b5 c4 (fun rCode1 rIndex1 => Kr rCode1)))
structure L.a3_J3 (c3 : L.yb) (c4 : L.T8) (Kr : Int → Prop) : Prop where
  out : L.a3_J3_B c3 c4 Kr
def L.a3_J3_d : CutD := { base := 1, vecs := [], flds := [], keep := [1], out := [], rets := [2], ovecs := [], oflds := [], rv := [], rbase := 0 }
def L.a3_J3_ss : List Sh := [.cl 0 0]
def L.a3_J3_os : List OSh := [.cells [.int .i64, .str, .str, .ro .str, .ro L.T7]]
def L.a3_J3_G (vs : List V) (st : List Ob) (K : Ex → St) : Prop := L.a3_J3 (gR .str ((oC (gD st 0)).getD 3 .any)) (gR L.T7 ((oC (gD st 0)).getD 4 .any)) (fun q0_ => K .ret (bld [2] [.xi q0_] 0 84) [])
def L.a3_J3_F (vs : List V) (st : List Ob) (K : Ex → St) : Prop := fitF L.a3_J3_ss L.a3_J3_os vs st (L.a3_J3_G vs st K)
theorem L.a3_J3_eq (c : Int) (c1 : ByteArray) (c2 : ByteArray) (c3 : L.yb) (c4 : L.T8) (K : Ex → St) : L.a3_J3_B c3 c4 (fun q0_ => K .ret (bld [2] [.xi q0_] 0 84) []) = exec L.pg (CC L.pg L.Γ_a3 L.Δ_a3) (drawD L.pg L.Γ_a3 L.Δ_a3) .leaf (sub [true, true, true] (codeOf Tryd.f52)) (bld L.a3_J3_d.keep [.cl 0 0] 0 84) [.cells [.xi c, .x (.string c1), .x (.string c2), .ro .str c3, .ro L.T7 c4]] (cutK L.a3_J3_d K) := by
  kernel_rfl
theorem L.a3_J3_ok (vs : List V) (st : List Ob) (K : Ex → St) : Imp (L.a3_J3_G vs st K) (exec L.pg (CC L.pg L.Γ_a3 L.Δ_a3) (drawD L.pg L.Γ_a3 L.Δ_a3) .leaf (sub [true, true, true] (codeOf Tryd.f52)) (bld L.a3_J3_d.keep (mkL L.a3_J3_ss 0 vs) 0 84) (mkOs L.a3_J3_os 0 st) (cutK L.a3_J3_d K)) :=
  Imp.of (Eq.trans (b := exec L.pg (CC L.pg L.Γ_a3 L.Δ_a3) (drawD L.pg L.Γ_a3 L.Δ_a3) .leaf (sub [true, true, true] (codeOf Tryd.f52)) (bld L.a3_J3_d.keep [.cl 0 0] 0 84) [.cells [.xi (cI st 0 0), .x (.string (gS ((oC (gD st 0)).getD 1 .any))), .x (.string (gS ((oC (gD st 0)).getD 2 .any))), .ro .str (gR .str ((oC (gD st 0)).getD 3 .any)), .ro L.T7 (gR L.T7 ((oC (gD st 0)).getD 4 .any))]] (cutK L.a3_J3_d K)) (by kernel_rfl) (Eq.symm (L.a3_J3_eq (cI st 0 0) (gS ((oC (gD st 0)).getD 1 .any)) (gS ((oC (gD st 0)).getD 2 .any)) (gR .str ((oC (gD st 0)).getD 3 .any)) (gR L.T7 ((oC (gD st 0)).getD 4 .any)) K))) fun h => (L.a3_J3.out h)
def L.a3_J1_B (edit1 : Bool) (rename1 : Bool) (v35 : Bool) (c8 : L.yb) (c9 : L.T8) (Kn : Prop) (Kr : Int → Prop) : Prop :=
  (bif v35 then Kr 5 else (bif (bif (decide ((c8.length : Int) > 0)) then (bif edit1 then true else rename1) else false) then Kr 5 else (bif (!(edit1 == (decide ((c9.length : Int) > 0)))) then Kr 5 else Kn)))
structure L.a3_J1 (edit1 : Bool) (rename1 : Bool) (v35 : Bool) (c8 : L.yb) (c9 : L.T8) (Kn : Prop) (Kr : Int → Prop) : Prop where
  out : L.a3_J1_B edit1 rename1 v35 c8 c9 Kn Kr
def L.a3_J1_d : CutD := { base := 1, vecs := [], flds := [], keep := [1, 3, 4, 35], out := [1], rets := [2], ovecs := [], oflds := [], rv := [], rbase := 1 }
def L.a3_J1_ss : List Sh := [.cl 0 0, .bool, .bool, .bool]
def L.a3_J1_os : List OSh := [.cells [.int .i64, .str, .str, .ro .str, .ro L.T7]]
def L.a3_J1_G (vs : List V) (st : List Ob) (K : Ex → St) : Prop := L.a3_J1 (gB (gA vs 1)) (gB (gA vs 2)) (gB (gA vs 3)) (gR .str ((oC (gD st 0)).getD 3 .any)) (gR L.T7 ((oC (gD st 0)).getD 4 .any)) (K .normal (bld [1] [.cl 0 0] 0 84) [.cells [.xi (cI st 0 0), .x (.string (gS ((oC (gD st 0)).getD 1 .any))), .x (.string (gS ((oC (gD st 0)).getD 2 .any))), .ro .str (gR .str ((oC (gD st 0)).getD 3 .any)), .ro L.T7 (gR L.T7 ((oC (gD st 0)).getD 4 .any))]]) (fun q0_ => K .ret (bld [2] [.xi q0_] 0 84) [.cells [.xi (cI st 0 0), .x (.string (gS ((oC (gD st 0)).getD 1 .any))), .x (.string (gS ((oC (gD st 0)).getD 2 .any))), .ro .str (gR .str ((oC (gD st 0)).getD 3 .any)), .ro L.T7 (gR L.T7 ((oC (gD st 0)).getD 4 .any))]])
def L.a3_J1_F (vs : List V) (st : List Ob) (K : Ex → St) : Prop := fitF L.a3_J1_ss L.a3_J1_os vs st (L.a3_J1_G vs st K)
theorem L.a3_J1_eq (edit1 : Bool) (rename1 : Bool) (v35 : Bool) (c5 : Int) (c6 : ByteArray) (c7 : ByteArray) (c8 : L.yb) (c9 : L.T8) (K : Ex → St) : L.a3_J1_B edit1 rename1 v35 c8 c9 (K .normal (bld [1] [.cl 0 0] 0 84) [.cells [.xi c5, .x (.string c6), .x (.string c7), .ro .str c8, .ro L.T7 c9]]) (fun q0_ => K .ret (bld [2] [.xi q0_] 0 84) [.cells [.xi c5, .x (.string c6), .x (.string c7), .ro .str c8, .ro L.T7 c9]]) = exec L.pg (CC L.pg L.Γ_a3 L.Δ_a3) (drawD L.pg L.Γ_a3 L.Δ_a3) .leaf (sub [true, true, false, false, true, true, true, true, true] (codeOf Tryd.f52)) (bld L.a3_J1_d.keep [.cl 0 0, .x (.bool edit1), .x (.bool rename1), .x (.bool v35)] 0 84) [.cells [.xi c5, .x (.string c6), .x (.string c7), .ro .str c8, .ro L.T7 c9]] (cutK L.a3_J1_d K) := by
  kernel_rfl
theorem L.a3_J1_ok (vs : List V) (st : List Ob) (K : Ex → St) : Imp (L.a3_J1_G vs st K) (exec L.pg (CC L.pg L.Γ_a3 L.Δ_a3) (drawD L.pg L.Γ_a3 L.Δ_a3) .leaf (sub [true, true, false, false, true, true, true, true, true] (codeOf Tryd.f52)) (bld L.a3_J1_d.keep (mkL L.a3_J1_ss 0 vs) 0 84) (mkOs L.a3_J1_os 0 st) (cutK L.a3_J1_d K)) :=
  Imp.of (Eq.trans (b := exec L.pg (CC L.pg L.Γ_a3 L.Δ_a3) (drawD L.pg L.Γ_a3 L.Δ_a3) .leaf (sub [true, true, false, false, true, true, true, true, true] (codeOf Tryd.f52)) (bld L.a3_J1_d.keep [.cl 0 0, .x (.bool (gB (gA vs 1))), .x (.bool (gB (gA vs 2))), .x (.bool (gB (gA vs 3)))] 0 84) [.cells [.xi (cI st 0 0), .x (.string (gS ((oC (gD st 0)).getD 1 .any))), .x (.string (gS ((oC (gD st 0)).getD 2 .any))), .ro .str (gR .str ((oC (gD st 0)).getD 3 .any)), .ro L.T7 (gR L.T7 ((oC (gD st 0)).getD 4 .any))]] (cutK L.a3_J1_d K)) (by kernel_rfl) (Eq.symm (L.a3_J1_eq (gB (gA vs 1)) (gB (gA vs 2)) (gB (gA vs 3)) (cI st 0 0) (gS ((oC (gD st 0)).getD 1 .any)) (gS ((oC (gD st 0)).getD 2 .any)) (gR .str ((oC (gD st 0)).getD 3 .any)) (gR L.T7 ((oC (gD st 0)).getD 4 .any)) K))) fun h => (L.a3_J1.out h)
def L.a3_J2_B (edit : Bool) (rename : Bool) (v21 : Bool) (c1 : ByteArray) (c2 : ByteArray) (c3 : L.yb) (c4 : L.T8) (Kn : Prop) (Kr : Int → Prop) : Prop :=
  (bif v21 then Kr 12 else (bif (bif (!rename) then (!(c2.toList == L.str1.toList)) else false) then L.a3_J1 edit rename true c3 c4 (Kn) Kr else (bif rename then L.e2 c1 c2 (fun r => L.a3_J1 edit rename (bif false then true else (bif true then r else false)) c3 c4 (Kn) Kr) else L.a3_J1 edit rename (bif false then true else false) c3 c4 (Kn) Kr)))
structure L.a3_J2 (edit : Bool) (rename : Bool) (v21 : Bool) (c1 : ByteArray) (c2 : ByteArray) (c3 : L.yb) (c4 : L.T8) (Kn : Prop) (Kr : Int → Prop) : Prop where
  out : L.a3_J2_B edit rename v21 c1 c2 c3 c4 Kn Kr
def L.a3_J2_d : CutD := { base := 1, vecs := [], flds := [], keep := [1, 3, 4, 21], out := [1], rets := [2], ovecs := [], oflds := [], rv := [], rbase := 0 }
def L.a3_J2_ss : List Sh := [.cl 0 0, .bool, .bool, .bool]
def L.a3_J2_os : List OSh := [.cells [.int .i64, .str, .str, .ro .str, .ro L.T7]]
def L.a3_J2_G (vs : List V) (st : List Ob) (K : Ex → St) : Prop := L.a3_J2 (gB (gA vs 1)) (gB (gA vs 2)) (gB (gA vs 3)) (gS ((oC (gD st 0)).getD 1 .any)) (gS ((oC (gD st 0)).getD 2 .any)) (gR .str ((oC (gD st 0)).getD 3 .any)) (gR L.T7 ((oC (gD st 0)).getD 4 .any)) (K .normal (bld [1] [.cl 0 0] 0 84) [.cells [.xi (cI st 0 0), .x (.string (gS ((oC (gD st 0)).getD 1 .any))), .x (.string (gS ((oC (gD st 0)).getD 2 .any))), .ro .str (gR .str ((oC (gD st 0)).getD 3 .any)), .ro L.T7 (gR L.T7 ((oC (gD st 0)).getD 4 .any))]]) (fun q0_ => K .ret (bld [2] [.xi q0_] 0 84) [])
def L.a3_J2_F (vs : List V) (st : List Ob) (K : Ex → St) : Prop := fitF L.a3_J2_ss L.a3_J2_os vs st (L.a3_J2_G vs st K)
theorem L.a3_J2_eq (edit : Bool) (rename : Bool) (v21 : Bool) (c : Int) (c1 : ByteArray) (c2 : ByteArray) (c3 : L.yb) (c4 : L.T8) (K : Ex → St) : L.a3_J2_B edit rename v21 c1 c2 c3 c4 (K .normal (bld [1] [.cl 0 0] 0 84) [.cells [.xi c, .x (.string c1), .x (.string c2), .ro .str c3, .ro L.T7 c4]]) (fun q0_ => K .ret (bld [2] [.xi q0_] 0 84) []) = exec L.pg (CC L.pg L.Γ_a3 L.Δ_a3) (drawD L.pg L.Γ_a3 L.Δ_a3) (.node .leaf (.cut .leaf L.a3_J1_d 84 L.a3_J1_F)) (sub [true, true, false, false, true, true, true] (codeOf Tryd.f52)) (bld L.a3_J2_d.keep [.cl 0 0, .x (.bool edit), .x (.bool rename), .x (.bool v21)] 0 84) [.cells [.xi c, .x (.string c1), .x (.string c2), .ro .str c3, .ro L.T7 c4]] (cutK L.a3_J2_d K) := by
  kernel_rfl
theorem L.a3_J2_ok (vs : List V) (st : List Ob) (K : Ex → St) : Imp (L.a3_J2_G vs st K) (exec L.pg (CC L.pg L.Γ_a3 L.Δ_a3) (drawD L.pg L.Γ_a3 L.Δ_a3) (.node .leaf (.cut .leaf L.a3_J1_d 84 L.a3_J1_F)) (sub [true, true, false, false, true, true, true] (codeOf Tryd.f52)) (bld L.a3_J2_d.keep (mkL L.a3_J2_ss 0 vs) 0 84) (mkOs L.a3_J2_os 0 st) (cutK L.a3_J2_d K)) :=
  Imp.of (Eq.trans (b := exec L.pg (CC L.pg L.Γ_a3 L.Δ_a3) (drawD L.pg L.Γ_a3 L.Δ_a3) (.node .leaf (.cut .leaf L.a3_J1_d 84 L.a3_J1_F)) (sub [true, true, false, false, true, true, true] (codeOf Tryd.f52)) (bld L.a3_J2_d.keep [.cl 0 0, .x (.bool (gB (gA vs 1))), .x (.bool (gB (gA vs 2))), .x (.bool (gB (gA vs 3)))] 0 84) [.cells [.xi (cI st 0 0), .x (.string (gS ((oC (gD st 0)).getD 1 .any))), .x (.string (gS ((oC (gD st 0)).getD 2 .any))), .ro .str (gR .str ((oC (gD st 0)).getD 3 .any)), .ro L.T7 (gR L.T7 ((oC (gD st 0)).getD 4 .any))]] (cutK L.a3_J2_d K)) (by kernel_rfl) (Eq.symm (L.a3_J2_eq (gB (gA vs 1)) (gB (gA vs 2)) (gB (gA vs 3)) (cI st 0 0) (gS ((oC (gD st 0)).getD 1 .any)) (gS ((oC (gD st 0)).getD 2 .any)) (gR .str ((oC (gD st 0)).getD 3 .any)) (gR L.T7 ((oC (gD st 0)).getD 4 .any)) K))) fun h => (L.a3_J2.out h)
def L.a3_B (c_Kind : Int) (c_Path : ByteArray) (c_To : ByteArray) (c_Lines : L.yb) (c_Patch_Hunks : L.T8) (K : Int → Prop) : Prop :=
  (bif (bif (decide (c_Kind < 1)) then true else (decide (c_Kind > 4))) then K 4 else L.f1 c_Path (fun r => (bif (!r) then L.a3_J2 (c_Kind == 4) (c_Kind == 3) true c_Path c_To c_Lines c_Patch_Hunks (L.a3_J3 c_Lines c_Patch_Hunks K) K else (bif (c_Kind == 3) then L.f1 c_To (fun r1 => L.a3_J2 (c_Kind == 4) (c_Kind == 3) (bif false then true else (bif true then (!r1) else false)) c_Path c_To c_Lines c_Patch_Hunks (L.a3_J3 c_Lines c_Patch_Hunks K) K) else L.a3_J2 (c_Kind == 4) (c_Kind == 3) (bif false then true else false) c_Path c_To c_Lines c_Patch_Hunks (L.a3_J3 c_Lines c_Patch_Hunks K) K))))
structure L.a3 (c_Kind : Int) (c_Path : ByteArray) (c_To : ByteArray) (c_Lines : L.yb) (c_Patch_Hunks : L.T8) (K : Int → Prop) : Prop where
  out : L.a3_B c_Kind c_Path c_To c_Lines c_Patch_Hunks K
def L.a3_ss : List Sh := [.agg [.int .i64, .str, .str, .ro .str, .ro L.T7]]
def L.a3_G (vs : List V) (K : V → List Ob → Prop) : Prop := L.a3 (gI ((gC (gA vs 0)).getD 0 .any)) (gS ((gC (gA vs 0)).getD 1 .any)) (gS ((gC (gA vs 0)).getD 2 .any)) (gR .str ((gC (gA vs 0)).getD 3 .any)) (gR L.T7 ((gC (gA vs 0)).getD 4 .any)) (fun r0 => K (.xi r0) [])
def L.a3_S : SemF := fun args K => argF L.a3_ss args fun a => L.a3_G a K
theorem L.a3_eq (c_Kind : Int) (c_Path : ByteArray) (c_To : ByteArray) (c_Lines : L.yb) (c_Patch_Hunks : L.T8) (K : V → List Ob → Prop) : run L.pg L.Γ_a3 L.Δ_a3 (.node .leaf (.node .leaf (.cut (.node .leaf (.node .leaf (.cut .leaf L.a3_J2_d 84 L.a3_J2_F))) L.a3_J3_d 84 L.a3_J3_F))) .any Tryd.f52 [.agg [.xi c_Kind, .x (.string c_Path), .x (.string c_To), .ro .str c_Lines, .ro L.T7 c_Patch_Hunks]] K = L.a3_B c_Kind c_Path c_To c_Lines c_Patch_Hunks (fun r0 => K (.xi r0) []) := by
  kernel_rfl
theorem L.a3_imp (vs : List V) (K : V → List Ob → Prop) : Imp (L.a3_G vs K) (run L.pg L.Γ_a3 L.Δ_a3 (.node .leaf (.node .leaf (.cut (.node .leaf (.node .leaf (.cut .leaf L.a3_J2_d 84 L.a3_J2_F))) L.a3_J3_d 84 L.a3_J3_F))) .any Tryd.f52 (mkL L.a3_ss 0 vs) K) :=
  Imp.of (Eq.trans (b := run L.pg L.Γ_a3 L.Δ_a3 (.node .leaf (.node .leaf (.cut (.node .leaf (.node .leaf (.cut .leaf L.a3_J2_d 84 L.a3_J2_F))) L.a3_J3_d 84 L.a3_J3_F))) .any Tryd.f52 [.agg [.xi (gI ((gC (gA vs 0)).getD 0 .any)), .x (.string (gS ((gC (gA vs 0)).getD 1 .any))), .x (.string (gS ((gC (gA vs 0)).getD 2 .any))), .ro .str (gR .str ((gC (gA vs 0)).getD 3 .any)), .ro L.T7 (gR L.T7 ((gC (gA vs 0)).getD 4 .any))]] K) (by kernel_rfl) (L.a3_eq (gI ((gC (gA vs 0)).getD 0 .any)) (gS ((gC (gA vs 0)).getD 1 .any)) (gS ((gC (gA vs 0)).getD 2 .any)) (gR .str ((gC (gA vs 0)).getD 3 .any)) (gR L.T7 ((gC (gA vs 0)).getD 4 .any)) K)) fun h => (L.a3.out h)
theorem L.a3_ok : SoundFn L.pg 52 L.a3_S :=
  fn_ok (sem := run L.pg L.Γ_a3 L.Δ_a3 (.node .leaf (.node .leaf (.cut (.node .leaf (.node .leaf (.cut .leaf L.a3_J2_d 84 L.a3_J2_F))) L.a3_J3_d 84 L.a3_J3_F))) .any Tryd.f52) (ss := L.a3_ss) (G := L.a3_G) (run_ok L.Γ_a3_ok L.Δ_a3_ok Tryd.func52 (ann := (.node .leaf (.node .leaf (.cut (.node .leaf (.node .leaf (.cut .leaf L.a3_J2_d 84 L.a3_J2_F))) L.a3_J3_d 84 L.a3_J3_F)))) ⟨(annOk_leaf _), ⟨(annOk_leaf _), (cut_ok (ay := .leaf) (ss := L.a3_J3_ss) (os := L.a3_J3_os) (G := L.a3_J3_G) rfl ⟨(annOk_leaf _), ⟨(annOk_leaf _), (cut_ok (ay := (.node .leaf (.cut .leaf L.a3_J1_d 84 L.a3_J1_F))) (ss := L.a3_J2_ss) (os := L.a3_J2_os) (G := L.a3_J2_G) rfl (annOk_leaf _) (Nat.le_of_ble_eq_true rfl) (Nat.le_of_ble_eq_true rfl) ⟨(annOk_leaf _), (cut_ok (ay := .leaf) (ss := L.a3_J1_ss) (os := L.a3_J1_os) (G := L.a3_J1_G) rfl (annOk_leaf _) (Nat.le_of_ble_eq_true rfl) (Nat.le_of_ble_eq_true rfl) (annOk_leaf _) L.a3_J1_ok)⟩ L.a3_J2_ok)⟩⟩ (Nat.le_of_ble_eq_true rfl) (Nat.le_of_ble_eq_true rfl) (annOk_leaf _) L.a3_J3_ok)⟩⟩) L.a3_imp
def L.Γ_b4 : Ctx := ctxC L.Γ_a3 52 L.a3_S
theorem L.Γ_b4_ok : SoundG L.pg L.Γ_b4 := ctxC_ok L.Γ_a3_ok L.a3_ok
def L.Δ_b4 : CtxO := L.Δ_a3
theorem L.Δ_b4_ok : SoundGO L.pg L.Δ_b4 := L.Δ_a3_ok
def L.b4_L1_b (v12 : L.T2) (v13 : Int) (v14 : Int) (self : Int → Prop) (Kx0 : Prop) (Kr : Int → Int → Prop) : Prop :=
  (bif (decide (v14 < v13)) then (inB v14 v12.length) ∧ L.a3 ((v12.getD v14.toNat (0, (ByteArray.empty, (ByteArray.empty, ([], []))))).1) ((v12.getD v14.toNat (0, (ByteArray.empty, (ByteArray.empty, ([], []))))).2.1) ((v12.getD v14.toNat (0, (ByteArray.empty, (ByteArray.empty, ([], []))))).2.2.1) ((v12.getD v14.toNat (0, (ByteArray.empty, (ByteArray.empty, ([], []))))).2.2.2.1) ((v12.getD v14.toNat (0, (ByteArray.empty, (ByteArray.empty, ([], []))))).2.2.2.2) (fun r => (bif (r != 0) then Kr r v14 else self (i64 (v14 + 1)))) else Kx0)
def L.b4_L1_R (v12 : L.T2) (v13 : Int) : Nat → Int → (Prop) → (Int → Int → Prop) → Prop
  | 0, _, _, _ => False
  | fu + 1, v14, Kx0, Kr => L.b4_L1_b v12 v13 v14 (fun v14 => L.b4_L1_R v12 v13 fu v14 Kx0 Kr) Kx0 Kr
structure L.b4_L1 (v12 : L.T2) (v13 : Int) (v14 : Int) (Kx0 : Prop) (Kr : Int → Int → Prop) : Prop where
  out : ∃ fu, L.b4_L1_R v12 v13 fu v14 Kx0 Kr
def L.b4_L1_d : LoopD := { base := 2, vecs := [], flds := [], keep := [2, 12, 13, 14], out := [2], rets := [2], rv := [], rbase := 0 }
def L.b4_L1_ss : List Sh := [.cl 1 0, .ro L.T1, .int .i64, .int .i64]
def L.b4_L1_os : List OSh := [.cells [.ro L.T1], .cells [.int .i64, .int .i64]]
def L.b4_L1_G (vs : List V) (st : List Ob) (K : Ex → St) : Prop := L.b4_L1 (gR L.T1 (gA vs 1)) (gI (gA vs 2)) (gI (gA vs 3)) (K (.exit 0) (bld [2] [.cl 1 0] 0 28) [.cells [.ro L.T1 (gR L.T1 ((oC (gD st 0)).getD 0 .any))], .cells [.xi (cI st 1 0), .xi (cI st 1 1)]]) (fun q0_ q1_ => K .ret (bld [2] [.cl 0 0] 0 28) [.cells [.xi q0_, .xi q1_]])
def L.b4_L1_F (vs : List V) (st : List Ob) (K : Ex → St) : Prop := fitF L.b4_L1_ss L.b4_L1_os vs st (L.b4_L1_G vs st K)
theorem L.b4_L1_eq (v12 : L.T2) (v13 : Int) (m0 : L.T2) (m1 : Int) (m11 : Int) (K : Ex → St) : ∀ (fu : Nat) (v14 : Int), L.b4_L1_R v12 v13 fu v14 (K (.exit 0) (bld [2] [.cl 1 0] 0 28) [.cells [.ro L.T1 m0], .cells [.xi m1, .xi m11]]) (fun q0_ q1_ => K .ret (bld [2] [.cl 0 0] 0 28) [.cells [.xi q0_, .xi q1_]]) = iterL (stepL (exec L.pg (CC L.pg L.Γ_b4 L.Δ_b4) (drawD L.pg L.Γ_b4 L.Δ_b4) .leaf (sub [true, true, false, true, false, false] (codeOf Tryd.f28))) 2 L.b4_L1_d K) fu (bld L.b4_L1_d.keep [.cl 1 0, .ro L.T1 v12, .xi v13, .xi v14] 0 28) [.cells [.ro L.T1 m0], .cells [.xi m1, .xi m11]] := by
  intro fu
  induction fu with
  | zero => intros; rfl
  | succ fu ih =>
    intro v14
    have e : (fun v14 => L.b4_L1_R v12 v13 fu v14 (K (.exit 0) (bld [2] [.cl 1 0] 0 28) [.cells [.ro L.T1 m0], .cells [.xi m1, .xi m11]]) (fun q0_ q1_ => K .ret (bld [2] [.cl 0 0] 0 28) [.cells [.xi q0_, .xi q1_]])) = fun v14 => iterL (stepL (exec L.pg (CC L.pg L.Γ_b4 L.Δ_b4) (drawD L.pg L.Γ_b4 L.Δ_b4) .leaf (sub [true, true, false, true, false, false] (codeOf Tryd.f28))) 2 L.b4_L1_d K) fu (bld L.b4_L1_d.keep [.cl 1 0, .ro L.T1 v12, .xi v13, .xi v14] 0 28) [.cells [.ro L.T1 m0], .cells [.xi m1, .xi m11]] := by
      funext v14; exact ih v14
    show L.b4_L1_b v12 v13 v14 (fun v14 => L.b4_L1_R v12 v13 fu v14 (K (.exit 0) (bld [2] [.cl 1 0] 0 28) [.cells [.ro L.T1 m0], .cells [.xi m1, .xi m11]]) (fun q0_ q1_ => K .ret (bld [2] [.cl 0 0] 0 28) [.cells [.xi q0_, .xi q1_]])) (K (.exit 0) (bld [2] [.cl 1 0] 0 28) [.cells [.ro L.T1 m0], .cells [.xi m1, .xi m11]]) (fun q0_ q1_ => K .ret (bld [2] [.cl 0 0] 0 28) [.cells [.xi q0_, .xi q1_]]) = _
    rw [e]
    kernel_rfl
theorem L.b4_L1_imp (vs : List V) (st : List Ob) (K : Ex → St) (h : L.b4_L1_G vs st K) : ∃ fu, iterL (stepL (exec L.pg (CC L.pg L.Γ_b4 L.Δ_b4) (drawD L.pg L.Γ_b4 L.Δ_b4) .leaf (sub [true, true, false, true, false, false] (codeOf Tryd.f28))) 2 L.b4_L1_d K) fu (bld L.b4_L1_d.keep (mkL L.b4_L1_ss 0 vs) 0 28) (mkOs L.b4_L1_os 0 st) :=
  exMap (fun fu h => @Eq.mp _ _ (Eq.trans (L.b4_L1_eq (gR L.T1 (gA vs 1)) (gI (gA vs 2)) (gR L.T1 ((oC (gD st 0)).getD 0 .any)) (cI st 1 0) (cI st 1 1) K fu (gI (gA vs 3))) (by kernel_rfl)) h) (L.b4_L1.out h)
theorem L.b4_L1_ok : AnnOk L.pg (CC L.pg L.Γ_b4 L.Δ_b4) (drawD L.pg L.Γ_b4 L.Δ_b4) 0 (.lift L.b4_L1_d 28 L.b4_L1_F) (.loop (sub [true, true, false, true, false, false] (codeOf Tryd.f28))) :=
  lift_ok (an := .leaf) (ss := L.b4_L1_ss) (os := L.b4_L1_os) (G := L.b4_L1_G) rfl (Nat.le_of_ble_eq_true rfl) (annOk_leaf _) (L.b4_L1_imp)
def L.b4_B (p_Changes : L.T2) (K : Int → Int → Prop) : Prop :=
  (bif (decide ((p_Changes.length : Int) > 30)) then K 2 (-1) else L.b4_L1 p_Changes (p_Changes.length : Int) 0 (K 0 0) (fun m r => K m r))
structure L.b4 (p_Changes : L.T2) (K : Int → Int → Prop) : Prop where
  out : L.b4_B p_Changes K
def L.b4_ss : List Sh := [.agg [.ro L.T1]]
def L.b4_G (vs : List V) (K : V → List Ob → Prop) : Prop := L.b4 (gR L.T1 ((gC (gA vs 0)).getD 0 .any)) (fun r0 r1 => K (.agg [.xi r0, .xi r1]) [])
def L.b4_S : SemF := fun args K => argF L.b4_ss args fun a => L.b4_G a K
theorem L.b4_eq (p_Changes : L.T2) (K : V → List Ob → Prop) : run L.pg L.Γ_b4 L.Δ_b4 (.node .leaf (.node .leaf (.node (.node .leaf (.lift L.b4_L1_d 28 L.b4_L1_F)) .leaf))) .any Tryd.f28 [.agg [.ro L.T1 p_Changes]] K = L.b4_B p_Changes (fun r0 r1 => K (.agg [.xi r0, .xi r1]) []) := by
  kernel_rfl
theorem L.b4_imp (vs : List V) (K : V → List Ob → Prop) : Imp (L.b4_G vs K) (run L.pg L.Γ_b4 L.Δ_b4 (.node .leaf (.node .leaf (.node (.node .leaf (.lift L.b4_L1_d 28 L.b4_L1_F)) .leaf))) .any Tryd.f28 (mkL L.b4_ss 0 vs) K) :=
  Imp.of (Eq.trans (b := run L.pg L.Γ_b4 L.Δ_b4 (.node .leaf (.node .leaf (.node (.node .leaf (.lift L.b4_L1_d 28 L.b4_L1_F)) .leaf))) .any Tryd.f28 [.agg [.ro L.T1 (gR L.T1 ((gC (gA vs 0)).getD 0 .any))]] K) (by kernel_rfl) (L.b4_eq (gR L.T1 ((gC (gA vs 0)).getD 0 .any)) K)) fun h => (L.b4.out h)
theorem L.b4_ok : SoundFn L.pg 28 L.b4_S :=
  fn_ok (sem := run L.pg L.Γ_b4 L.Δ_b4 (.node .leaf (.node .leaf (.node (.node .leaf (.lift L.b4_L1_d 28 L.b4_L1_F)) .leaf))) .any Tryd.f28) (ss := L.b4_ss) (G := L.b4_G) (run_ok L.Γ_b4_ok L.Δ_b4_ok Tryd.func28 (ann := (.node .leaf (.node .leaf (.node (.node .leaf (.lift L.b4_L1_d 28 L.b4_L1_F)) .leaf)))) ⟨(annOk_leaf _), ⟨(annOk_leaf _), ⟨⟨(annOk_leaf _), L.b4_L1_ok⟩, (annOk_leaf _)⟩⟩⟩) L.b4_imp
def L.Γ_a9 : Ctx := ctxC L.Γ_b4 28 L.b4_S
theorem L.Γ_a9_ok : SoundG L.pg L.Γ_a9 := ctxC_ok L.Γ_b4_ok L.b4_ok
def L.Δ_a9 : CtxO := L.Δ_b4
theorem L.Δ_a9_ok : SoundGO L.pg L.Δ_a9 := L.Δ_b4_ok
def L.a9_L1_b (v7 : L.T9) (v8 : Int) (v9 : Int) (m3 : L.T9) (self : Int → L.T9 → Prop) (Kx0 : L.T9 → Prop) : Prop :=
  (bif (decide (v9 < v8)) then (inB v9 v7.length) ∧ ((L.c8 ((v7.getD v9.toNat (ByteArray.empty, [])).2) (fun r => (fits (m3.length + ([((v7.getD v9.toNat (ByteArray.empty, [])).1, r)] : List (ByteArray × L.yb)).length)) ∧ self (i64 (v9 + 1)) (m3 ++ ([((v7.getD v9.toNat (ByteArray.empty, [])).1, r)] : List (ByteArray × L.yb))))) ∧ L.c8 ((v7.getD v9.toNat (ByteArray.empty, [])).2) (fun r1 => (fits (m3.length + ([((v7.getD v9.toNat (ByteArray.empty, [])).1, r1)] : List (ByteArray × L.yb)).length)) ∧ self (i64 (v9 + 1)) (m3 ++ ([((v7.getD v9.toNat (ByteArray.empty, [])).1, r1)] : List (ByteArray × L.yb))))) ∧ ((L.c8 ((v7.getD v9.toNat (ByteArray.empty, [])).2) (fun r2 => (fits (m3.length + ([((v7.getD v9.toNat (ByteArray.empty, [])).1, r2)] : List (ByteArray × L.yb)).length)) ∧ self (i64 (v9 + 1)) (m3 ++ ([((v7.getD v9.toNat (ByteArray.empty, [])).1, r2)] : List (ByteArray × L.yb))))) ∧ L.c8 ((v7.getD v9.toNat (ByteArray.empty, [])).2) (fun r3 => ((fits (m3.length + ([((v7.getD v9.toNat (ByteArray.empty, [])).1, r3)] : List (ByteArray × L.yb)).length)) ∧ self (i64 (v9 + 1)) (m3 ++ ([((v7.getD v9.toNat (ByteArray.empty, [])).1, r3)] : List (ByteArray × L.yb)))) ∧ (fits (m3.length + ([((v7.getD v9.toNat (ByteArray.empty, [])).1, r3)] : List (ByteArray × L.yb)).length)) ∧ self (i64 (v9 + 1)) (m3 ++ ([((v7.getD v9.toNat (ByteArray.empty, [])).1, r3)] : List (ByteArray × L.yb))))) ∧ L.c8 ((v7.getD v9.toNat (ByteArray.empty, [])).2) (fun r4 => ((fits (m3.length + ([((v7.getD v9.toNat (ByteArray.empty, [])).1, r4)] : List (ByteArray × L.yb)).length)) ∧ self (i64 (v9 + 1)) (m3 ++ ([((v7.getD v9.toNat (ByteArray.empty, [])).1, r4)] : List (ByteArray × L.yb)))) ∧ ((fits (m3.length + ([((v7.getD v9.toNat (ByteArray.empty, [])).1, r4)] : List (ByteArray × L.yb)).length)) ∧ self (i64 (v9 + 1)) (m3 ++ ([((v7.getD v9.toNat (ByteArray.empty, [])).1, r4)] : List (ByteArray × L.yb)))) ∧ (fits (m3.length + ([((v7.getD v9.toNat (ByteArray.empty, [])).1, r4)] : List (ByteArray × L.yb)).length)) ∧ self (i64 (v9 + 1)) (m3 ++ ([((v7.getD v9.toNat (ByteArray.empty, [])).1, r4)] : List (ByteArray × L.yb)))) else Kx0 m3)
def L.a9_L1_R (v7 : L.T9) (v8 : Int) : Nat → Int → L.T9 → (L.T9 → Prop) → Prop
  | 0, _, _, _ => False
  | fu + 1, v9, m3, Kx0 => L.a9_L1_b v7 v8 v9 m3 (fun v9 m3 => L.a9_L1_R v7 v8 fu v9 m3 Kx0) Kx0
structure L.a9_L1 (v7 : L.T9) (v8 : Int) (v9 : Int) (m3 : L.T9) (Kx0 : L.T9 → Prop) : Prop where
  out : ∃ fu, L.a9_L1_R v7 v8 fu v9 m3 Kx0
def L.a9_L1_d : LoopD := { base := 3, vecs := [], flds := [(2, 0, .sl L.ya)], keep := [2, 3, 7, 8, 9], out := [2, 3], rets := [2], rv := [], rbase := 0 }
def L.a9_L1_ss : List Sh := [.cl 1 0, .cl 2 0, .ro L.ya, .int .i64, .int .i64]
def L.a9_L1_os : List OSh := [.cells [.ro L.ya], .cells [.nil], .cells [.vec 3], .vec L.ya true]
def L.a9_L1_G (vs : List V) (st : List Ob) (K : Ex → St) : Prop := L.a9_L1 (gR L.ya (gA vs 2)) (gI (gA vs 3)) (gI (gA vs 4)) (oX L.ya (gD st 3)) (fun q0_ => K (.exit 0) (bld [2, 3] [.cl 1 0, .cl 2 0] 0 26) [.cells [.ro L.ya (gR L.ya ((oC (gD st 0)).getD 0 .any))], .cells [.x (.slice none 0 0)], .cells [.vec 3], .vec L.ya 0 q0_])
def L.a9_L1_F (vs : List V) (st : List Ob) (K : Ex → St) : Prop := fitF L.a9_L1_ss L.a9_L1_os vs st (L.a9_L1_G vs st K)
theorem L.a9_L1_eq (v7 : L.T9) (v8 : Int) (m0 : L.T9) (K : Ex → St) : ∀ (fu : Nat) (v9 : Int) (m3 : L.T9), L.a9_L1_R v7 v8 fu v9 m3 (fun q0_ => K (.exit 0) (bld [2, 3] [.cl 1 0, .cl 2 0] 0 26) [.cells [.ro L.ya m0], .cells [.x (.slice none 0 0)], .cells [.vec 3], .vec L.ya 0 q0_]) = iterL (stepL (exec L.pg (CC L.pg L.Γ_a9 L.Δ_a9) (drawD L.pg L.Γ_a9 L.Δ_a9) .leaf (sub [true, true, false, true, false, false] (codeOf Tryd.f29))) 3 L.a9_L1_d K) fu (bld L.a9_L1_d.keep [.cl 1 0, .cl 2 0, .ro L.ya v7, .xi v8, .xi v9] 0 26) [.cells [.ro L.ya m0], .cells [.x (.slice none 0 0)], .cells [.vec 3], .vec L.ya 0 m3] := by
  intro fu
  induction fu with
  | zero => intros; rfl
  | succ fu ih =>
    intro v9 m3
    have e : (fun v9 m3 => L.a9_L1_R v7 v8 fu v9 m3 (fun q0_ => K (.exit 0) (bld [2, 3] [.cl 1 0, .cl 2 0] 0 26) [.cells [.ro L.ya m0], .cells [.x (.slice none 0 0)], .cells [.vec 3], .vec L.ya 0 q0_])) = fun v9 m3 => iterL (stepL (exec L.pg (CC L.pg L.Γ_a9 L.Δ_a9) (drawD L.pg L.Γ_a9 L.Δ_a9) .leaf (sub [true, true, false, true, false, false] (codeOf Tryd.f29))) 3 L.a9_L1_d K) fu (bld L.a9_L1_d.keep [.cl 1 0, .cl 2 0, .ro L.ya v7, .xi v8, .xi v9] 0 26) [.cells [.ro L.ya m0], .cells [.x (.slice none 0 0)], .cells [.vec 3], .vec L.ya 0 m3] := by
      funext v9 m3; exact ih v9 m3
    show L.a9_L1_b v7 v8 v9 m3 (fun v9 m3 => L.a9_L1_R v7 v8 fu v9 m3 (fun q0_ => K (.exit 0) (bld [2, 3] [.cl 1 0, .cl 2 0] 0 26) [.cells [.ro L.ya m0], .cells [.x (.slice none 0 0)], .cells [.vec 3], .vec L.ya 0 q0_])) (fun q0_ => K (.exit 0) (bld [2, 3] [.cl 1 0, .cl 2 0] 0 26) [.cells [.ro L.ya m0], .cells [.x (.slice none 0 0)], .cells [.vec 3], .vec L.ya 0 q0_]) = _
    rw [e]
    kernel_rfl
theorem L.a9_L1_imp (vs : List V) (st : List Ob) (K : Ex → St) (h : L.a9_L1_G vs st K) : ∃ fu, iterL (stepL (exec L.pg (CC L.pg L.Γ_a9 L.Δ_a9) (drawD L.pg L.Γ_a9 L.Δ_a9) .leaf (sub [true, true, false, true, false, false] (codeOf Tryd.f29))) 3 L.a9_L1_d K) fu (bld L.a9_L1_d.keep (mkL L.a9_L1_ss 0 vs) 0 26) (mkOs L.a9_L1_os 0 st) :=
  exMap (fun fu h => @Eq.mp _ _ (Eq.trans (L.a9_L1_eq (gR L.ya (gA vs 2)) (gI (gA vs 3)) (gR L.ya ((oC (gD st 0)).getD 0 .any)) K fu (gI (gA vs 4)) (oX L.ya (gD st 3))) (by kernel_rfl)) h) (L.a9_L1.out h)
theorem L.a9_L1_ok : AnnOk L.pg (CC L.pg L.Γ_a9 L.Δ_a9) (drawD L.pg L.Γ_a9 L.Δ_a9) 0 (.lift L.a9_L1_d 26 L.a9_L1_F) (.loop (sub [true, true, false, true, false, false] (codeOf Tryd.f29))) :=
  lift_ok (an := .leaf) (ss := L.a9_L1_ss) (os := L.a9_L1_os) (G := L.a9_L1_G) rfl (Nat.le_of_ble_eq_true rfl) (annOk_leaf _) (L.a9_L1_imp)
def L.a9_B (t : L.T9) (K : L.T9 → Prop) : Prop :=
  L.a9_L1 t (t.length : Int) 0 ([] : List (ByteArray × L.yb)) (fun m => K m)
structure L.a9 (t : L.T9) (K : L.T9 → Prop) : Prop where
  out : L.a9_B t K
def L.a9_ss : List Sh := [.agg [.ro L.ya]]
def L.a9_os : List OSh := []
def L.a9_G (vs : List V) (st : List Ob) (K : V → List Ob → Prop) : Prop := L.a9 (gR L.ya ((gC (gA vs 0)).getD 0 .any)) (fun r0 => K (.agg [.vec 0]) [.vec L.ya 0 r0])
def L.a9_S : SemO := fun args st K => argO L.a9_ss L.a9_os args st fun a s => L.a9_G a s K
theorem L.a9_eq (t : L.T9) (K : V → List Ob → Prop) : runH L.pg L.Γ_a9 L.Δ_a9 (.node .leaf (.node .leaf (.node (.node .leaf (.lift L.a9_L1_d 26 L.a9_L1_F)) .leaf))) (.agg [(.sl L.ya)]) [] Tryd.f29 false 0 [.agg [.ro L.ya t]] [] K = L.a9_B t (fun r0 => K (.agg [.vec 0]) [.vec L.ya 0 r0]) := by
  kernel_rfl
theorem L.a9_imp (vs : List V) (st : List Ob) (K : V → List Ob → Prop) : Imp (L.a9_G vs st K) (runH L.pg L.Γ_a9 L.Δ_a9 (.node .leaf (.node .leaf (.node (.node .leaf (.lift L.a9_L1_d 26 L.a9_L1_F)) .leaf))) (.agg [(.sl L.ya)]) [] Tryd.f29 false 0 (mkL L.a9_ss 0 vs) (mkOs L.a9_os 0 st) K) :=
  Imp.of (Eq.trans (b := runH L.pg L.Γ_a9 L.Δ_a9 (.node .leaf (.node .leaf (.node (.node .leaf (.lift L.a9_L1_d 26 L.a9_L1_F)) .leaf))) (.agg [(.sl L.ya)]) [] Tryd.f29 false 0 [.agg [.ro L.ya (gR L.ya ((gC (gA vs 0)).getD 0 .any))]] [] K) (by kernel_rfl) (L.a9_eq (gR L.ya ((gC (gA vs 0)).getD 0 .any)) K)) fun h => (L.a9.out h)
theorem L.a9_ok : SoundO L.pg 29 L.a9_S :=
  fnO_ok (sem := runH L.pg L.Γ_a9 L.Δ_a9 (.node .leaf (.node .leaf (.node (.node .leaf (.lift L.a9_L1_d 26 L.a9_L1_F)) .leaf))) (.agg [(.sl L.ya)]) [] Tryd.f29 false 0) (ss := L.a9_ss) (os := L.a9_os) (G := L.a9_G) (runH_ok L.Γ_a9_ok L.Δ_a9_ok Tryd.func29 (ann := (.node .leaf (.node .leaf (.node (.node .leaf (.lift L.a9_L1_d 26 L.a9_L1_F)) .leaf)))) rfl ⟨(annOk_leaf _), ⟨(annOk_leaf _), ⟨⟨(annOk_leaf _), L.a9_L1_ok⟩, (annOk_leaf _)⟩⟩⟩) L.a9_imp
def L.Γ_c4 : Ctx := L.Γ_a9
theorem L.Γ_c4_ok : SoundG L.pg L.Γ_c4 := L.Γ_a9_ok
def L.Δ_c4 : CtxO := ctxE L.Δ_a9 29 [.agg [.ro L.ya]] L.a9_ss L.a9_os L.a9_G
theorem L.Δ_c4_ok : SoundGO L.pg L.Δ_c4 := ctxE_ok L.Δ_a9_ok L.a9_ok
def L.c4_J1_B (l1 : L.yb) (k : Int) (m2 : L.T9) (Kn : L.T9 → Prop) : Prop :=
  (L.c8 l1 (fun r2 => (inB k m2.length) ∧ Kn (m2.set k.toNat ((m2.getD k.toNat (ByteArray.empty, [])).1, r2)))) ∧ L.c8 l1 (fun r3 => (inB k m2.length) ∧ Kn (m2.set k.toNat ((m2.getD k.toNat (ByteArray.empty, [])).1, r3)))
structure L.c4_J1 (l1 : L.yb) (k : Int) (m2 : L.T9) (Kn : L.T9 → Prop) : Prop where
  out : L.c4_J1_B l1 k m2 Kn
def L.c4_J1_d : CutD := { base := 2, vecs := [], flds := [(0, 0, .sl L.ya)], keep := [0, 2, 6], out := [], rets := [], ovecs := [], oflds := [(0, 0, .mv L.ya)], rv := [], rbase := 2 }
def L.c4_J1_ss : List Sh := [.cl 0 0, .ro .str, .int .i64]
def L.c4_J1_os : List OSh := [.cells [.vec 2], .dead, .vec L.ya true]
def L.c4_J1_G (vs : List V) (st : List Ob) (K : Ex → St) : Prop := L.c4_J1 (gR .str (gA vs 1)) (gI (gA vs 2)) (oX L.ya (gD st 2)) (fun q0_ => K .normal (bld [] [] 0 40) [.cells [.vec 2], .dead, .vec L.ya 0 q0_])
def L.c4_J1_F (vs : List V) (st : List Ob) (K : Ex → St) : Prop := fitF L.c4_J1_ss L.c4_J1_os vs st (L.c4_J1_G vs st K)
theorem L.c4_J1_eq (l1 : L.yb) (k : Int) (m2 : L.T9) (K : Ex → St) : L.c4_J1_B l1 k m2 (fun q0_ => K .normal (bld [] [] 0 40) [.cells [.vec 2], .dead, .vec L.ya 0 q0_]) = exec L.pg (CC L.pg L.Γ_c4 L.Δ_c4) (drawD L.pg L.Γ_c4 L.Δ_c4) .leaf (sub [true, true] (codeOf Tryd.f53)) (bld L.c4_J1_d.keep [.cl 0 0, .ro .str l1, .xi k] 0 40) [.cells [.vec 2], .dead, .vec L.ya 0 m2] (cutK L.c4_J1_d K) := by
  kernel_rfl
theorem L.c4_J1_ok (vs : List V) (st : List Ob) (K : Ex → St) : Imp (L.c4_J1_G vs st K) (exec L.pg (CC L.pg L.Γ_c4 L.Δ_c4) (drawD L.pg L.Γ_c4 L.Δ_c4) .leaf (sub [true, true] (codeOf Tryd.f53)) (bld L.c4_J1_d.keep (mkL L.c4_J1_ss 0 vs) 0 40) (mkOs L.c4_J1_os 0 st) (cutK L.c4_J1_d K)) :=
  Imp.of (Eq.trans (b := exec L.pg (CC L.pg L.Γ_c4 L.Δ_c4) (drawD L.pg L.Γ_c4 L.Δ_c4) .leaf (sub [true, true] (codeOf Tryd.f53)) (bld L.c4_J1_d.keep [.cl 0 0, .ro .str (gR .str (gA vs 1)), .xi (gI (gA vs 2))] 0 40) [.cells [.vec 2], .dead, .vec L.ya 0 (oX L.ya (gD st 2))] (cutK L.c4_J1_d K)) (by kernel_rfl) (Eq.symm (L.c4_J1_eq (gR .str (gA vs 1)) (gI (gA vs 2)) (oX L.ya (gD st 2)) K))) fun h => (L.c4_J1.out h)
def L.c4_B (path : ByteArray) (l : L.yb) (m1 : L.T9) (K : L.T9 → Prop) : Prop :=
  L.c6 m1 path (fun r r1 => (bif (!r1) then (0 ≤ r ∧ r ≤ (m1.length : Int) ∧ ([(path, ([] : List ByteArray))] : List (ByteArray × L.yb)).length ≠ 0 ∧ fits (m1.length + ([(path, ([] : List ByteArray))] : List (ByteArray × L.yb)).length)) ∧ L.c4_J1 l r ((m1.take r.toNat ++ ([(path, ([] : List ByteArray))] : List (ByteArray × L.yb))) ++ m1.drop r.toNat) K else L.c4_J1 l r m1 K))
structure L.c4 (path : ByteArray) (l : L.yb) (m1 : L.T9) (K : L.T9 → Prop) : Prop where
  out : L.c4_B path l m1 K
def L.c4_ss : List Sh := [.cl 0 0, .str, .ro .str]
def L.c4_os : List OSh := [.cells [.vec 1], .vec L.ya true]
def L.c4_G (vs : List V) (st : List Ob) (K : V → List Ob → Prop) : Prop := L.c4 (gS (gA vs 1)) (gR .str (gA vs 2)) (oX L.ya (gD st 1)) (fun r0 => K (.tup []) [.cells [.vec 2], .dead, .vec L.ya 0 r0])
def L.c4_S : SemO := fun args st K => argO L.c4_ss L.c4_os args st fun a s => L.c4_G a s K
theorem L.c4_eq (path : ByteArray) (l : L.yb) (m1 : L.T9) (K : V → List Ob → Prop) : runH L.pg L.Γ_c4 L.Δ_c4 (.node .leaf (.cut .leaf L.c4_J1_d 40 L.c4_J1_F)) (.tup []) [] Tryd.f53 false 2 [.cl 0 0, .x (.string path), .ro .str l] [.cells [.vec 1], .vec L.ya 0 m1] K = L.c4_B path l m1 (fun r0 => K (.tup []) [.cells [.vec 2], .dead, .vec L.ya 0 r0]) := by
  kernel_rfl
theorem L.c4_imp (vs : List V) (st : List Ob) (K : V → List Ob → Prop) : Imp (L.c4_G vs st K) (runH L.pg L.Γ_c4 L.Δ_c4 (.node .leaf (.cut .leaf L.c4_J1_d 40 L.c4_J1_F)) (.tup []) [] Tryd.f53 false 2 (mkL L.c4_ss 0 vs) (mkOs L.c4_os 0 st) K) :=
  Imp.of (Eq.trans (b := runH L.pg L.Γ_c4 L.Δ_c4 (.node .leaf (.cut .leaf L.c4_J1_d 40 L.c4_J1_F)) (.tup []) [] Tryd.f53 false 2 [.cl 0 0, .x (.string (gS (gA vs 1))), .ro .str (gR .str (gA vs 2))] [.cells [.vec 1], .vec L.ya 0 (oX L.ya (gD st 1))] K) (by kernel_rfl) (L.c4_eq (gS (gA vs 1)) (gR .str (gA vs 2)) (oX L.ya (gD st 1)) K)) fun h => (L.c4.out h)
theorem L.c4_ok : SoundO L.pg 53 L.c4_S :=
  fnO_ok (sem := runH L.pg L.Γ_c4 L.Δ_c4 (.node .leaf (.cut .leaf L.c4_J1_d 40 L.c4_J1_F)) (.tup []) [] Tryd.f53 false 2) (ss := L.c4_ss) (os := L.c4_os) (G := L.c4_G) (runH_ok L.Γ_c4_ok L.Δ_c4_ok Tryd.func53 (ann := (.node .leaf (.cut .leaf L.c4_J1_d 40 L.c4_J1_F))) rfl ⟨(annOk_leaf _), (cut_ok (ay := .leaf) (ss := L.c4_J1_ss) (os := L.c4_J1_os) (G := L.c4_J1_G) rfl (annOk_leaf _) (Nat.le_of_ble_eq_true rfl) (Nat.le_of_ble_eq_true rfl) (annOk_leaf _) L.c4_J1_ok)⟩) L.c4_imp
def L.Γ_d4 : Ctx := L.Γ_c4
theorem L.Γ_d4_ok : SoundG L.pg L.Γ_d4 := L.Γ_c4_ok
def L.Δ_d4 : CtxO := ctxE L.Δ_c4 53 [.any, .any, .sl .str] L.c4_ss L.c4_os L.c4_G
theorem L.Δ_d4_ok : SoundGO L.pg L.Δ_d4 := ctxE_ok L.Δ_c4_ok L.c4_ok
def L.d4_B (c : Int) (c1 : ByteArray) (c2 : ByteArray) (c3 : L.yb) (c4 : L.T8) (m1 : L.T9) (K : Int → L.T9 → Prop) : Prop :=
  L.c6 m1 c1 (fun r r1 => (bif (c == 1) then L.a5 m1 c1 (-1) (fun r2 => (bif r2 then K 7 m1 else (bif (decide ((m1.length : Int) ≥ 24)) then K 14 m1 else L.c4 c1 c3 m1 (fun r3 => K 0 r3)))) else (bif (!r1) then K 6 m1 else (inB r m1.length) ∧ (bif (c == 2) then L.b8 ((m1.getD r.toNat (ByteArray.empty, [])).2) c3 (fun r4 => (bif (!r4) then K 19 m1 else (0 ≤ r ∧ r < (i64 (r + 1)) ∧ (i64 (r + 1)) ≤ (m1.length : Int) ∧ fits m1.length) ∧ K 0 (m1.take r.toNat ++ m1.drop (i64 (r + 1)).toNat))) else (bif (c == 3) then L.a5 m1 c2 r (fun r5 => (bif r5 then K 7 m1 else (0 ≤ r ∧ r < (i64 (r + 1)) ∧ (i64 (r + 1)) ≤ (m1.length : Int) ∧ fits m1.length) ∧ L.c4 c2 ((m1.getD r.toNat (ByteArray.empty, [])).2) (m1.take r.toNat ++ m1.drop (i64 (r + 1)).toNat) (fun r6 => K 0 r6))) else L.c0 c4 ((m1.getD r.toNat (ByteArray.empty, [])).2) (fun r7 rCode rIndex => (bif (!((rCode == 0) && ((rIndex == 0) && true))) then K rCode m1 else (inB r m1.length) ∧ K 0 (m1.set r.toNat ((m1.getD r.toNat (ByteArray.empty, [])).1, r7)))))))))
structure L.d4 (c : Int) (c1 : ByteArray) (c2 : ByteArray) (c3 : L.yb) (c4 : L.T8) (m1 : L.T9) (K : Int → L.T9 → Prop) : Prop where
  out : L.d4_B c c1 c2 c3 c4 m1 K
def L.d4_ss : List Sh := [.agg [.int .i64, .str, .str, .ro .str, .ro L.T7], .cl 0 0]
def L.d4_os : List OSh := [.cells [.vec 1], .vec L.ya true]
def L.d4_G (vs : List V) (st : List Ob) (K : V → List Ob → Prop) : Prop := L.d4 (gI ((gC (gA vs 0)).getD 0 .any)) (gS ((gC (gA vs 0)).getD 1 .any)) (gS ((gC (gA vs 0)).getD 2 .any)) (gR .str ((gC (gA vs 0)).getD 3 .any)) (gR L.T7 ((gC (gA vs 0)).getD 4 .any)) (oX L.ya (gD st 1)) (fun r0 r1 => K (.xi r0) [.cells [.vec 2], .dead, .vec L.ya 0 r1])
def L.d4_S : SemO := fun args st K => argO L.d4_ss L.d4_os args st fun a s => L.d4_G a s K
theorem L.d4_eq (c : Int) (c1 : ByteArray) (c2 : ByteArray) (c3 : L.yb) (c4 : L.T8) (m1 : L.T9) (K : V → List Ob → Prop) : runH L.pg L.Γ_d4 L.Δ_d4 .leaf .any [(0, 0, .mv L.ya)] Tryd.f30 false 2 [.agg [.xi c, .x (.string c1), .x (.string c2), .ro .str c3, .ro L.T7 c4], .cl 0 0] [.cells [.vec 1], .vec L.ya 0 m1] K = L.d4_B c c1 c2 c3 c4 m1 (fun r0 r1 => K (.xi r0) [.cells [.vec 2], .dead, .vec L.ya 0 r1]) := by
  kernel_rfl
theorem L.d4_imp (vs : List V) (st : List Ob) (K : V → List Ob → Prop) : Imp (L.d4_G vs st K) (runH L.pg L.Γ_d4 L.Δ_d4 .leaf .any [(0, 0, .mv L.ya)] Tryd.f30 false 2 (mkL L.d4_ss 0 vs) (mkOs L.d4_os 0 st) K) :=
  Imp.of (Eq.trans (b := runH L.pg L.Γ_d4 L.Δ_d4 .leaf .any [(0, 0, .mv L.ya)] Tryd.f30 false 2 [.agg [.xi (gI ((gC (gA vs 0)).getD 0 .any)), .x (.string (gS ((gC (gA vs 0)).getD 1 .any))), .x (.string (gS ((gC (gA vs 0)).getD 2 .any))), .ro .str (gR .str ((gC (gA vs 0)).getD 3 .any)), .ro L.T7 (gR L.T7 ((gC (gA vs 0)).getD 4 .any))], .cl 0 0] [.cells [.vec 1], .vec L.ya 0 (oX L.ya (gD st 1))] K) (by kernel_rfl) (L.d4_eq (gI ((gC (gA vs 0)).getD 0 .any)) (gS ((gC (gA vs 0)).getD 1 .any)) (gS ((gC (gA vs 0)).getD 2 .any)) (gR .str ((gC (gA vs 0)).getD 3 .any)) (gR L.T7 ((gC (gA vs 0)).getD 4 .any)) (oX L.ya (gD st 1)) K)) fun h => (L.d4.out h)
theorem L.d4_ok : SoundO L.pg 30 L.d4_S :=
  fnO_ok (sem := runH L.pg L.Γ_d4 L.Δ_d4 .leaf .any [(0, 0, .mv L.ya)] Tryd.f30 false 2) (ss := L.d4_ss) (os := L.d4_os) (G := L.d4_G) (runH_ok L.Γ_d4_ok L.Δ_d4_ok Tryd.func30 (ann := .leaf) rfl (annOk_leaf _)) L.d4_imp
def L.Γ_b0 : Ctx := L.Γ_d4
theorem L.Γ_b0_ok : SoundG L.pg L.Γ_b0 := L.Γ_d4_ok
def L.Δ_b0 : CtxO := ctxE L.Δ_d4 30 [.any, .any] L.d4_ss L.d4_os L.d4_G
theorem L.Δ_b0_ok : SoundGO L.pg L.Δ_b0 := ctxE_ok L.Δ_d4_ok L.d4_ok
def L.b0_L1_b (v29 : L.T2) (v30 : Int) (v31 : Int) (m8 : L.T9) (self : Int → L.T9 → Prop) (Kx0 : L.T9 → Prop) (Kr : Int → Int → Prop) : Prop :=
  (bif (decide (v31 < v30)) then (inB v31 v29.length) ∧ L.d4 ((v29.getD v31.toNat (0, (ByteArray.empty, (ByteArray.empty, ([], []))))).1) ((v29.getD v31.toNat (0, (ByteArray.empty, (ByteArray.empty, ([], []))))).2.1) ((v29.getD v31.toNat (0, (ByteArray.empty, (ByteArray.empty, ([], []))))).2.2.1) ((v29.getD v31.toNat (0, (ByteArray.empty, (ByteArray.empty, ([], []))))).2.2.2.1) ((v29.getD v31.toNat (0, (ByteArray.empty, (ByteArray.empty, ([], []))))).2.2.2.2) m8 (fun r1 r2 => (bif (r1 != 0) then Kr r1 v31 else self (i64 (v31 + 1)) r2)) else Kx0 m8)
def L.b0_L1_R (v29 : L.T2) (v30 : Int) : Nat → Int → L.T9 → (L.T9 → Prop) → (Int → Int → Prop) → Prop
  | 0, _, _, _, _ => False
  | fu + 1, v31, m8, Kx0, Kr => L.b0_L1_b v29 v30 v31 m8 (fun v31 m8 => L.b0_L1_R v29 v30 fu v31 m8 Kx0 Kr) Kx0 Kr
structure L.b0_L1 (v29 : L.T2) (v30 : Int) (v31 : Int) (m8 : L.T9) (Kx0 : L.T9 → Prop) (Kr : Int → Int → Prop) : Prop where
  out : ∃ fu, L.b0_L1_R v29 v30 fu v31 m8 Kx0 Kr
def L.b0_L1_d : LoopD := { base := 8, vecs := [], flds := [(7, 0, .sl L.ya)], keep := [4, 5, 8, 29, 30, 31], out := [4, 5, 8], rets := [4, 5], rv := [], rbase := 0 }
def L.b0_L1_ss : List Sh := [.cl 2 0, .cl 3 0, .cl 7 0, .ro L.T1, .int .i64, .int .i64]
def L.b0_L1_os : List OSh := [.cells [.ro L.T1], .cells [.ro L.ya], .cells [.nil], .cells [.int .i64, .int .i64], .cells [.int .i64, .int .i64], .cells [.int .i64, .int .i64], .dead, .cells [.vec 8], .vec L.ya true]
def L.b0_L1_G (vs : List V) (st : List Ob) (K : Ex → St) : Prop := L.b0_L1 (gR L.T1 (gA vs 3)) (gI (gA vs 4)) (gI (gA vs 5)) (oX L.ya (gD st 8)) (fun q0_ => K (.exit 0) (bld [4, 5, 8] [.cl 2 0, .cl 3 0, .cl 7 0] 0 47) [.cells [.ro L.T1 (gR L.T1 ((oC (gD st 0)).getD 0 .any))], .cells [.ro L.ya (gR L.ya ((oC (gD st 1)).getD 0 .any))], .cells [.x (.slice none 0 0)], .cells [.xi (cI st 3 0), .xi (cI st 3 1)], .cells [.xi (cI st 4 0), .xi (cI st 4 1)], .cells [.xi (cI st 5 0), .xi (cI st 5 1)], .dead, .cells [.vec 8], .vec L.ya 0 q0_]) (fun q0_ q1_ => K .ret (bld [4, 5] [.cl 0 0, .cl 1 0] 0 47) [.cells [.x (.slice none 0 0)], .cells [.xi q0_, .xi q1_]])
def L.b0_L1_F (vs : List V) (st : List Ob) (K : Ex → St) : Prop := fitF L.b0_L1_ss L.b0_L1_os vs st (L.b0_L1_G vs st K)
theorem L.b0_L1_eq (v29 : L.T2) (v30 : Int) (m0 : L.T2) (m1 : L.T9) (m3 : Int) (m31 : Int) (m4 : Int) (m41 : Int) (m5 : Int) (m51 : Int) (K : Ex → St) : ∀ (fu : Nat) (v31 : Int) (m8 : L.T9), L.b0_L1_R v29 v30 fu v31 m8 (fun q0_ => K (.exit 0) (bld [4, 5, 8] [.cl 2 0, .cl 3 0, .cl 7 0] 0 47) [.cells [.ro L.T1 m0], .cells [.ro L.ya m1], .cells [.x (.slice none 0 0)], .cells [.xi m3, .xi m31], .cells [.xi m4, .xi m41], .cells [.xi m5, .xi m51], .dead, .cells [.vec 8], .vec L.ya 0 q0_]) (fun q0_ q1_ => K .ret (bld [4, 5] [.cl 0 0, .cl 1 0] 0 47) [.cells [.x (.slice none 0 0)], .cells [.xi q0_, .xi q1_]]) = iterL (stepL (exec L.pg (CC L.pg L.Γ_b0 L.Δ_b0) (drawD L.pg L.Γ_b0 L.Δ_b0) .leaf (sub [true, true, true, true, false, true, false, false] (codeOf Tryd.f11))) 8 L.b0_L1_d K) fu (bld L.b0_L1_d.keep [.cl 2 0, .cl 3 0, .cl 7 0, .ro L.T1 v29, .xi v30, .xi v31] 0 47) [.cells [.ro L.T1 m0], .cells [.ro L.ya m1], .cells [.x (.slice none 0 0)], .cells [.xi m3, .xi m31], .cells [.xi m4, .xi m41], .cells [.xi m5, .xi m51], .dead, .cells [.vec 8], .vec L.ya 0 m8] := by
  intro fu
  induction fu with
  | zero => intros; rfl
  | succ fu ih =>
    intro v31 m8
    have e : (fun v31 m8 => L.b0_L1_R v29 v30 fu v31 m8 (fun q0_ => K (.exit 0) (bld [4, 5, 8] [.cl 2 0, .cl 3 0, .cl 7 0] 0 47) [.cells [.ro L.T1 m0], .cells [.ro L.ya m1], .cells [.x (.slice none 0 0)], .cells [.xi m3, .xi m31], .cells [.xi m4, .xi m41], .cells [.xi m5, .xi m51], .dead, .cells [.vec 8], .vec L.ya 0 q0_]) (fun q0_ q1_ => K .ret (bld [4, 5] [.cl 0 0, .cl 1 0] 0 47) [.cells [.x (.slice none 0 0)], .cells [.xi q0_, .xi q1_]])) = fun v31 m8 => iterL (stepL (exec L.pg (CC L.pg L.Γ_b0 L.Δ_b0) (drawD L.pg L.Γ_b0 L.Δ_b0) .leaf (sub [true, true, true, true, false, true, false, false] (codeOf Tryd.f11))) 8 L.b0_L1_d K) fu (bld L.b0_L1_d.keep [.cl 2 0, .cl 3 0, .cl 7 0, .ro L.T1 v29, .xi v30, .xi v31] 0 47) [.cells [.ro L.T1 m0], .cells [.ro L.ya m1], .cells [.x (.slice none 0 0)], .cells [.xi m3, .xi m31], .cells [.xi m4, .xi m41], .cells [.xi m5, .xi m51], .dead, .cells [.vec 8], .vec L.ya 0 m8] := by
      funext v31 m8; exact ih v31 m8
    show L.b0_L1_b v29 v30 v31 m8 (fun v31 m8 => L.b0_L1_R v29 v30 fu v31 m8 (fun q0_ => K (.exit 0) (bld [4, 5, 8] [.cl 2 0, .cl 3 0, .cl 7 0] 0 47) [.cells [.ro L.T1 m0], .cells [.ro L.ya m1], .cells [.x (.slice none 0 0)], .cells [.xi m3, .xi m31], .cells [.xi m4, .xi m41], .cells [.xi m5, .xi m51], .dead, .cells [.vec 8], .vec L.ya 0 q0_]) (fun q0_ q1_ => K .ret (bld [4, 5] [.cl 0 0, .cl 1 0] 0 47) [.cells [.x (.slice none 0 0)], .cells [.xi q0_, .xi q1_]])) (fun q0_ => K (.exit 0) (bld [4, 5, 8] [.cl 2 0, .cl 3 0, .cl 7 0] 0 47) [.cells [.ro L.T1 m0], .cells [.ro L.ya m1], .cells [.x (.slice none 0 0)], .cells [.xi m3, .xi m31], .cells [.xi m4, .xi m41], .cells [.xi m5, .xi m51], .dead, .cells [.vec 8], .vec L.ya 0 q0_]) (fun q0_ q1_ => K .ret (bld [4, 5] [.cl 0 0, .cl 1 0] 0 47) [.cells [.x (.slice none 0 0)], .cells [.xi q0_, .xi q1_]]) = _
    rw [e]
    kernel_rfl
theorem L.b0_L1_imp (vs : List V) (st : List Ob) (K : Ex → St) (h : L.b0_L1_G vs st K) : ∃ fu, iterL (stepL (exec L.pg (CC L.pg L.Γ_b0 L.Δ_b0) (drawD L.pg L.Γ_b0 L.Δ_b0) .leaf (sub [true, true, true, true, false, true, false, false] (codeOf Tryd.f11))) 8 L.b0_L1_d K) fu (bld L.b0_L1_d.keep (mkL L.b0_L1_ss 0 vs) 0 47) (mkOs L.b0_L1_os 0 st) :=
  exMap (fun fu h => @Eq.mp _ _ (Eq.trans (L.b0_L1_eq (gR L.T1 (gA vs 3)) (gI (gA vs 4)) (gR L.T1 ((oC (gD st 0)).getD 0 .any)) (gR L.ya ((oC (gD st 1)).getD 0 .any)) (cI st 3 0) (cI st 3 1) (cI st 4 0) (cI st 4 1) (cI st 5 0) (cI st 5 1) K fu (gI (gA vs 5)) (oX L.ya (gD st 8))) (by kernel_rfl)) h) (L.b0_L1.out h)
theorem L.b0_L1_ok : AnnOk L.pg (CC L.pg L.Γ_b0 L.Δ_b0) (drawD L.pg L.Γ_b0 L.Δ_b0) 0 (.lift L.b0_L1_d 47 L.b0_L1_F) (.loop (sub [true, true, true, true, false, true, false, false] (codeOf Tryd.f11))) :=
  lift_ok (an := .leaf) (ss := L.b0_L1_ss) (os := L.b0_L1_os) (G := L.b0_L1_G) rfl (Nat.le_of_ble_eq_true rfl) (annOk_leaf _) (L.b0_L1_imp)
def L.b0_B (p : L.T2) (t : L.T9) (K : L.T9 → Int → Int → Prop) : Prop :=
  L.b4 p (fun rCode rIndex => (bif (!((rCode == 0) && ((rIndex == 0) && true))) then (K ([] : List (ByteArray × L.yb)) rCode rIndex) ∧ K ([] : List (ByteArray × L.yb)) rCode rIndex else L.e3 t (-2) (fun rCode1 rIndex1 => (bif (!((rCode1 == 0) && ((rIndex1 == 0) && true))) then (K ([] : List (ByteArray × L.yb)) rCode1 rIndex1) ∧ K ([] : List (ByteArray × L.yb)) rCode1 rIndex1 else L.a9 t (fun r => L.b0_L1 p (p.length : Int) 0 r (fun m => K m 0 0) (fun m1 r1 => K ([] : List (ByteArray × L.yb)) m1 r1))))))
structure L.b0 (p : L.T2) (t : L.T9) (K : L.T9 → Int → Int → Prop) : Prop where
  out : L.b0_B p t K
def L.b0_ss : List Sh := [.agg [.ro L.T1], .agg [.ro L.ya]]
def L.b0_os : List OSh := []
def L.b0_G (vs : List V) (st : List Ob) (K : V → List Ob → Prop) : Prop := L.b0 (gR L.T1 ((gC (gA vs 0)).getD 0 .any)) (gR L.ya ((gC (gA vs 1)).getD 0 .any)) (fun r0 r1 r2 => K (.tup [.agg [.ro L.ya r0], .agg [.xi r1, .xi r2]]) [])
def L.b0_S : SemO := fun args st K => argO L.b0_ss L.b0_os args st fun a s => L.b0_G a s K
theorem L.b0_eq (p : L.T2) (t : L.T9) (K : V → List Ob → Prop) : runH L.pg L.Γ_b0 L.Δ_b0 (.node .leaf (.node .leaf (.node .leaf (.node .leaf (.node (.node .leaf (.lift L.b0_L1_d 47 L.b0_L1_F)) .leaf))))) (.tup [(.agg [(.ro L.ya)]), .any]) [] Tryd.f11 false 0 [.agg [.ro L.T1 p], .agg [.ro L.ya t]] [] K = L.b0_B p t (fun r0 r1 r2 => K (.tup [.agg [.ro L.ya r0], .agg [.xi r1, .xi r2]]) []) := by
  kernel_rfl
theorem L.b0_imp (vs : List V) (st : List Ob) (K : V → List Ob → Prop) : Imp (L.b0_G vs st K) (runH L.pg L.Γ_b0 L.Δ_b0 (.node .leaf (.node .leaf (.node .leaf (.node .leaf (.node (.node .leaf (.lift L.b0_L1_d 47 L.b0_L1_F)) .leaf))))) (.tup [(.agg [(.ro L.ya)]), .any]) [] Tryd.f11 false 0 (mkL L.b0_ss 0 vs) (mkOs L.b0_os 0 st) K) :=
  Imp.of (Eq.trans (b := runH L.pg L.Γ_b0 L.Δ_b0 (.node .leaf (.node .leaf (.node .leaf (.node .leaf (.node (.node .leaf (.lift L.b0_L1_d 47 L.b0_L1_F)) .leaf))))) (.tup [(.agg [(.ro L.ya)]), .any]) [] Tryd.f11 false 0 [.agg [.ro L.T1 (gR L.T1 ((gC (gA vs 0)).getD 0 .any))], .agg [.ro L.ya (gR L.ya ((gC (gA vs 1)).getD 0 .any))]] [] K) (by kernel_rfl) (L.b0_eq (gR L.T1 ((gC (gA vs 0)).getD 0 .any)) (gR L.ya ((gC (gA vs 1)).getD 0 .any)) K)) fun h => (L.b0.out h)
theorem L.b0_ok : SoundO L.pg 11 L.b0_S :=
  fnO_ok (sem := runH L.pg L.Γ_b0 L.Δ_b0 (.node .leaf (.node .leaf (.node .leaf (.node .leaf (.node (.node .leaf (.lift L.b0_L1_d 47 L.b0_L1_F)) .leaf))))) (.tup [(.agg [(.ro L.ya)]), .any]) [] Tryd.f11 false 0) (ss := L.b0_ss) (os := L.b0_os) (G := L.b0_G) (runH_ok L.Γ_b0_ok L.Δ_b0_ok Tryd.func11 (ann := (.node .leaf (.node .leaf (.node .leaf (.node .leaf (.node (.node .leaf (.lift L.b0_L1_d 47 L.b0_L1_F)) .leaf)))))) rfl ⟨(annOk_leaf _), ⟨(annOk_leaf _), ⟨(annOk_leaf _), ⟨(annOk_leaf _), ⟨⟨(annOk_leaf _), L.b0_L1_ok⟩, (annOk_leaf _)⟩⟩⟩⟩⟩) L.b0_imp
def L.Γ_b7 : Ctx := L.Γ_b0
theorem L.Γ_b7_ok : SoundG L.pg L.Γ_b7 := L.Γ_b0_ok
def L.Δ_b7 : CtxO := ctxE L.Δ_b0 11 [.agg [.ro L.T1], .agg [.ro L.ya]] L.b0_ss L.b0_os L.b0_G
theorem L.Δ_b7_ok : SoundGO L.pg L.Δ_b7 := ctxE_ok L.Δ_b0_ok L.b0_ok
def L.b7_L1_b (a1 : L.yb) (b1 : L.yb) (i_ : Int) (self : Int → Prop) (Kx0 : Prop) (Kr : Bool → Prop) : Prop :=
  (bif (decide (i_ < (a1.length : Int))) then (inB i_ a1.length) ∧ (inB i_ b1.length) ∧ (bif (!((a1.getD i_.toNat ByteArray.empty).toList == (b1.getD i_.toNat ByteArray.empty).toList)) then Kr false else self (i64 (i_ + 1))) else Kx0)
def L.b7_L1_R (a1 : L.yb) (b1 : L.yb) : Nat → Int → (Prop) → (Bool → Prop) → Prop
  | 0, _, _, _ => False
  | fu + 1, i_, Kx0, Kr => L.b7_L1_b a1 b1 i_ (fun i_ => L.b7_L1_R a1 b1 fu i_ Kx0 Kr) Kx0 Kr
structure L.b7_L1 (a1 : L.yb) (b1 : L.yb) (i_ : Int) (Kx0 : Prop) (Kr : Bool → Prop) : Prop where
  out : ∃ fu, L.b7_L1_R a1 b1 fu i_ Kx0 Kr
def L.b7_L1_d : LoopD := { base := 0, vecs := [], flds := [], keep := [0, 1, 5], out := [], rets := [4], rv := [], rbase := 0 }
def L.b7_L1_ss : List Sh := [.ro .str, .ro .str, .int .i64]
def L.b7_L1_os : List OSh := []
def L.b7_L1_G (vs : List V) (st : List Ob) (K : Ex → St) : Prop := L.b7_L1 (gR .str (gA vs 0)) (gR .str (gA vs 1)) (gI (gA vs 2)) (K (.exit 0) (bld [] [] 0 26) []) (fun q0_ => K .ret (bld [4] [.x (.bool q0_)] 0 26) [])
def L.b7_L1_F (vs : List V) (st : List Ob) (K : Ex → St) : Prop := fitF L.b7_L1_ss L.b7_L1_os vs st (L.b7_L1_G vs st K)
theorem L.b7_L1_eq (a1 : L.yb) (b1 : L.yb) (K : Ex → St) : ∀ (fu : Nat) (i_ : Int), L.b7_L1_R a1 b1 fu i_ (K (.exit 0) (bld [] [] 0 26) []) (fun q0_ => K .ret (bld [4] [.x (.bool q0_)] 0 26) []) = iterL (stepL (exec L.pg (CC L.pg L.Γ_b7 L.Δ_b7) (drawD L.pg L.Γ_b7 L.Δ_b7) .leaf (sub [true, true, false, true, false, false] (codeOf Tryd.f9))) 0 L.b7_L1_d K) fu (bld L.b7_L1_d.keep [.ro .str a1, .ro .str b1, .xi i_] 0 26) [] := by
  intro fu
  induction fu with
  | zero => intros; rfl
  | succ fu ih =>
    intro i_
    have e : (fun i_ => L.b7_L1_R a1 b1 fu i_ (K (.exit 0) (bld [] [] 0 26) []) (fun q0_ => K .ret (bld [4] [.x (.bool q0_)] 0 26) [])) = fun i_ => iterL (stepL (exec L.pg (CC L.pg L.Γ_b7 L.Δ_b7) (drawD L.pg L.Γ_b7 L.Δ_b7) .leaf (sub [true, true, false, true, false, false] (codeOf Tryd.f9))) 0 L.b7_L1_d K) fu (bld L.b7_L1_d.keep [.ro .str a1, .ro .str b1, .xi i_] 0 26) [] := by
      funext i_; exact ih i_
    show L.b7_L1_b a1 b1 i_ (fun i_ => L.b7_L1_R a1 b1 fu i_ (K (.exit 0) (bld [] [] 0 26) []) (fun q0_ => K .ret (bld [4] [.x (.bool q0_)] 0 26) [])) (K (.exit 0) (bld [] [] 0 26) []) (fun q0_ => K .ret (bld [4] [.x (.bool q0_)] 0 26) []) = _
    rw [e]
    kernel_rfl
theorem L.b7_L1_imp (vs : List V) (st : List Ob) (K : Ex → St) (h : L.b7_L1_G vs st K) : ∃ fu, iterL (stepL (exec L.pg (CC L.pg L.Γ_b7 L.Δ_b7) (drawD L.pg L.Γ_b7 L.Δ_b7) .leaf (sub [true, true, false, true, false, false] (codeOf Tryd.f9))) 0 L.b7_L1_d K) fu (bld L.b7_L1_d.keep (mkL L.b7_L1_ss 0 vs) 0 26) (mkOs L.b7_L1_os 0 st) :=
  exMap (fun fu h => @Eq.mp _ _ (Eq.trans (L.b7_L1_eq (gR .str (gA vs 0)) (gR .str (gA vs 1)) K fu (gI (gA vs 2))) (by kernel_rfl)) h) (L.b7_L1.out h)
theorem L.b7_L1_ok : AnnOk L.pg (CC L.pg L.Γ_b7 L.Δ_b7) (drawD L.pg L.Γ_b7 L.Δ_b7) 0 (.lift L.b7_L1_d 26 L.b7_L1_F) (.loop (sub [true, true, false, true, false, false] (codeOf Tryd.f9))) :=
  lift_ok (an := .leaf) (ss := L.b7_L1_ss) (os := L.b7_L1_os) (G := L.b7_L1_G) rfl (Nat.le_of_ble_eq_true rfl) (annOk_leaf _) (L.b7_L1_imp)
def L.b7_B (a : L.yb) (b : L.yb) (K : Bool → Prop) : Prop :=
  (bif ((a.length : Int) != (b.length : Int)) then K false else L.b7_L1 a b 0 (K true) (fun r => K r))
structure L.b7 (a : L.yb) (b : L.yb) (K : Bool → Prop) : Prop where
  out : L.b7_B a b K
def L.b7_ss : List Sh := [.ro .str, .ro .str]
def L.b7_G (vs : List V) (K : V → List Ob → Prop) : Prop := L.b7 (gR .str (gA vs 0)) (gR .str (gA vs 1)) (fun r0 => K (.x (.bool r0)) [])
def L.b7_S : SemF := fun args K => argF L.b7_ss args fun a => L.b7_G a K
theorem L.b7_eq (a : L.yb) (b : L.yb) (K : V → List Ob → Prop) : run L.pg L.Γ_b7 L.Δ_b7 (.node .leaf (.node .leaf (.node (.node .leaf (.lift L.b7_L1_d 26 L.b7_L1_F)) .leaf))) .any Tryd.f9 [.ro .str a, .ro .str b] K = L.b7_B a b (fun r0 => K (.x (.bool r0)) []) := by
  kernel_rfl
theorem L.b7_imp (vs : List V) (K : V → List Ob → Prop) : Imp (L.b7_G vs K) (run L.pg L.Γ_b7 L.Δ_b7 (.node .leaf (.node .leaf (.node (.node .leaf (.lift L.b7_L1_d 26 L.b7_L1_F)) .leaf))) .any Tryd.f9 (mkL L.b7_ss 0 vs) K) :=
  Imp.of (Eq.trans (b := run L.pg L.Γ_b7 L.Δ_b7 (.node .leaf (.node .leaf (.node (.node .leaf (.lift L.b7_L1_d 26 L.b7_L1_F)) .leaf))) .any Tryd.f9 [.ro .str (gR .str (gA vs 0)), .ro .str (gR .str (gA vs 1))] K) (by kernel_rfl) (L.b7_eq (gR .str (gA vs 0)) (gR .str (gA vs 1)) K)) fun h => (L.b7.out h)
theorem L.b7_ok : SoundFn L.pg 9 L.b7_S :=
  fn_ok (sem := run L.pg L.Γ_b7 L.Δ_b7 (.node .leaf (.node .leaf (.node (.node .leaf (.lift L.b7_L1_d 26 L.b7_L1_F)) .leaf))) .any Tryd.f9) (ss := L.b7_ss) (G := L.b7_G) (run_ok L.Γ_b7_ok L.Δ_b7_ok Tryd.func9 (ann := (.node .leaf (.node .leaf (.node (.node .leaf (.lift L.b7_L1_d 26 L.b7_L1_F)) .leaf)))) ⟨(annOk_leaf _), ⟨(annOk_leaf _), ⟨⟨(annOk_leaf _), L.b7_L1_ok⟩, (annOk_leaf _)⟩⟩⟩) L.b7_imp
def L.Γ_b9 : Ctx := ctxC L.Γ_b7 9 L.b7_S
theorem L.Γ_b9_ok : SoundG L.pg L.Γ_b9 := ctxC_ok L.Γ_b7_ok L.b7_ok
def L.Δ_b9 : CtxO := L.Δ_b7
theorem L.Δ_b9_ok : SoundGO L.pg L.Δ_b9 := L.Δ_b7_ok
def L.b9_L1_b (a : L.T9) (b : L.T9) (i_ : Int) (self : Int → Prop) (Kx0 : Prop) (Kr : Bool → Prop) : Prop :=
  (bif (decide (i_ < (a.length : Int))) then (inB i_ a.length) ∧ (inB i_ b.length) ∧ ((((!(((a.getD i_.toNat (ByteArray.empty, [])).1).toList == ((b.getD i_.toNat (ByteArray.empty, [])).1).toList)) == false) = true → inB i_ a.length)) ∧ ((((!(((a.getD i_.toNat (ByteArray.empty, [])).1).toList == ((b.getD i_.toNat (ByteArray.empty, [])).1).toList)) == false) = true → inB i_ b.length)) ∧ (bif okAll [((!(((a.getD i_.toNat (ByteArray.empty, [])).1).toList == ((b.getD i_.toNat (ByteArray.empty, [])).1).toList)), false)] then L.b7 ((a.getD i_.toNat (ByteArray.empty, [])).2) ((b.getD i_.toNat (ByteArray.empty, [])).2) (fun r => (bif (!r) then Kr false else self (i64 (i_ + 1)))) else Kr false) else Kx0)
def L.b9_L1_R (a : L.T9) (b : L.T9) : Nat → Int → (Prop) → (Bool → Prop) → Prop
  | 0, _, _, _ => False
  | fu + 1, i_, Kx0, Kr => L.b9_L1_b a b i_ (fun i_ => L.b9_L1_R a b fu i_ Kx0 Kr) Kx0 Kr
structure L.b9_L1 (a : L.T9) (b : L.T9) (i_ : Int) (Kx0 : Prop) (Kr : Bool → Prop) : Prop where
  out : ∃ fu, L.b9_L1_R a b fu i_ Kx0 Kr
def L.b9_L1_d : LoopD := { base := 2, vecs := [], flds := [], keep := [2, 3, 5], out := [], rets := [4], rv := [], rbase := 0 }
def L.b9_L1_ss : List Sh := [.cl 0 0, .cl 1 0, .int .i64]
def L.b9_L1_os : List OSh := [.cells [.ro L.ya], .cells [.ro L.ya]]
def L.b9_L1_G (vs : List V) (st : List Ob) (K : Ex → St) : Prop := L.b9_L1 (gR L.ya ((oC (gD st 0)).getD 0 .any)) (gR L.ya ((oC (gD st 1)).getD 0 .any)) (gI (gA vs 2)) (K (.exit 0) (bld [] [] 0 49) [.cells [.ro L.ya (gR L.ya ((oC (gD st 0)).getD 0 .any))], .cells [.ro L.ya (gR L.ya ((oC (gD st 1)).getD 0 .any))]]) (fun q0_ => K .ret (bld [4] [.x (.bool q0_)] 0 49) [])
def L.b9_L1_F (vs : List V) (st : List Ob) (K : Ex → St) : Prop := fitF L.b9_L1_ss L.b9_L1_os vs st (L.b9_L1_G vs st K)
theorem L.b9_L1_eq (a : L.T9) (b : L.T9) (K : Ex → St) : ∀ (fu : Nat) (i_ : Int), L.b9_L1_R a b fu i_ (K (.exit 0) (bld [] [] 0 49) [.cells [.ro L.ya a], .cells [.ro L.ya b]]) (fun q0_ => K .ret (bld [4] [.x (.bool q0_)] 0 49) []) = iterL (stepL (exec L.pg (CC L.pg L.Γ_b9 L.Δ_b9) (drawD L.pg L.Γ_b9 L.Δ_b9) .leaf (sub [true, true, false, true, false, false] (codeOf Tryd.f13))) 2 L.b9_L1_d K) fu (bld L.b9_L1_d.keep [.cl 0 0, .cl 1 0, .xi i_] 0 49) [.cells [.ro L.ya a], .cells [.ro L.ya b]] := by
  intro fu
  induction fu with
  | zero => intros; rfl
  | succ fu ih =>
    intro i_
    have e : (fun i_ => L.b9_L1_R a b fu i_ (K (.exit 0) (bld [] [] 0 49) [.cells [.ro L.ya a], .cells [.ro L.ya b]]) (fun q0_ => K .ret (bld [4] [.x (.bool q0_)] 0 49) [])) = fun i_ => iterL (stepL (exec L.pg (CC L.pg L.Γ_b9 L.Δ_b9) (drawD L.pg L.Γ_b9 L.Δ_b9) .leaf (sub [true, true, false, true, false, false] (codeOf Tryd.f13))) 2 L.b9_L1_d K) fu (bld L.b9_L1_d.keep [.cl 0 0, .cl 1 0, .xi i_] 0 49) [.cells [.ro L.ya a], .cells [.ro L.ya b]] := by
      funext i_; exact ih i_
    show L.b9_L1_b a b i_ (fun i_ => L.b9_L1_R a b fu i_ (K (.exit 0) (bld [] [] 0 49) [.cells [.ro L.ya a], .cells [.ro L.ya b]]) (fun q0_ => K .ret (bld [4] [.x (.bool q0_)] 0 49) [])) (K (.exit 0) (bld [] [] 0 49) [.cells [.ro L.ya a], .cells [.ro L.ya b]]) (fun q0_ => K .ret (bld [4] [.x (.bool q0_)] 0 49) []) = _
    rw [e]
    kernel_rfl
theorem L.b9_L1_imp (vs : List V) (st : List Ob) (K : Ex → St) (h : L.b9_L1_G vs st K) : ∃ fu, iterL (stepL (exec L.pg (CC L.pg L.Γ_b9 L.Δ_b9) (drawD L.pg L.Γ_b9 L.Δ_b9) .leaf (sub [true, true, false, true, false, false] (codeOf Tryd.f13))) 2 L.b9_L1_d K) fu (bld L.b9_L1_d.keep (mkL L.b9_L1_ss 0 vs) 0 49) (mkOs L.b9_L1_os 0 st) :=
  exMap (fun fu h => @Eq.mp _ _ (Eq.trans (L.b9_L1_eq (gR L.ya ((oC (gD st 0)).getD 0 .any)) (gR L.ya ((oC (gD st 1)).getD 0 .any)) K fu (gI (gA vs 2))) (by kernel_rfl)) h) (L.b9_L1.out h)
theorem L.b9_L1_ok : AnnOk L.pg (CC L.pg L.Γ_b9 L.Δ_b9) (drawD L.pg L.Γ_b9 L.Δ_b9) 0 (.lift L.b9_L1_d 49 L.b9_L1_F) (.loop (sub [true, true, false, true, false, false] (codeOf Tryd.f13))) :=
  lift_ok (an := .leaf) (ss := L.b9_L1_ss) (os := L.b9_L1_os) (G := L.b9_L1_G) rfl (Nat.le_of_ble_eq_true rfl) (annOk_leaf _) (L.b9_L1_imp)
def L.b9_B (a_Files : L.T9) (b_Files : L.T9) (K : Bool → Prop) : Prop :=
  (bif ((a_Files.length : Int) != (b_Files.length : Int)) then K false else L.b9_L1 a_Files b_Files 0 (K true) (fun r => K r))
structure L.b9 (a_Files : L.T9) (b_Files : L.T9) (K : Bool → Prop) : Prop where
  out : L.b9_B a_Files b_Files K
def L.b9_ss : List Sh := [.agg [.ro L.ya], .agg [.ro L.ya]]
def L.b9_G (vs : List V) (K : V → List Ob → Prop) : Prop := L.b9 (gR L.ya ((gC (gA vs 0)).getD 0 .any)) (gR L.ya ((gC (gA vs 1)).getD 0 .any)) (fun r0 => K (.x (.bool r0)) [])
def L.b9_S : SemF := fun args K => argF L.b9_ss args fun a => L.b9_G a K
theorem L.b9_eq (a_Files : L.T9) (b_Files : L.T9) (K : V → List Ob → Prop) : run L.pg L.Γ_b9 L.Δ_b9 (.node .leaf (.node .leaf (.node (.node .leaf (.lift L.b9_L1_d 49 L.b9_L1_F)) .leaf))) .any Tryd.f13 [.agg [.ro L.ya a_Files], .agg [.ro L.ya b_Files]] K = L.b9_B a_Files b_Files (fun r0 => K (.x (.bool r0)) []) := by
  kernel_rfl
theorem L.b9_imp (vs : List V) (K : V → List Ob → Prop) : Imp (L.b9_G vs K) (run L.pg L.Γ_b9 L.Δ_b9 (.node .leaf (.node .leaf (.node (.node .leaf (.lift L.b9_L1_d 49 L.b9_L1_F)) .leaf))) .any Tryd.f13 (mkL L.b9_ss 0 vs) K) :=
  Imp.of (Eq.trans (b := run L.pg L.Γ_b9 L.Δ_b9 (.node .leaf (.node .leaf (.node (.node .leaf (.lift L.b9_L1_d 49 L.b9_L1_F)) .leaf))) .any Tryd.f13 [.agg [.ro L.ya (gR L.ya ((gC (gA vs 0)).getD 0 .any))], .agg [.ro L.ya (gR L.ya ((gC (gA vs 1)).getD 0 .any))]] K) (by kernel_rfl) (L.b9_eq (gR L.ya ((gC (gA vs 0)).getD 0 .any)) (gR L.ya ((gC (gA vs 1)).getD 0 .any)) K)) fun h => (L.b9.out h)
theorem L.b9_ok : SoundFn L.pg 13 L.b9_S :=
  fn_ok (sem := run L.pg L.Γ_b9 L.Δ_b9 (.node .leaf (.node .leaf (.node (.node .leaf (.lift L.b9_L1_d 49 L.b9_L1_F)) .leaf))) .any Tryd.f13) (ss := L.b9_ss) (G := L.b9_G) (run_ok L.Γ_b9_ok L.Δ_b9_ok Tryd.func13 (ann := (.node .leaf (.node .leaf (.node (.node .leaf (.lift L.b9_L1_d 49 L.b9_L1_F)) .leaf)))) ⟨(annOk_leaf _), ⟨(annOk_leaf _), ⟨⟨(annOk_leaf _), L.b9_L1_ok⟩, (annOk_leaf _)⟩⟩⟩) L.b9_imp
def L.Γ_d8 : Ctx := ctxC L.Γ_b9 13 L.b9_S
theorem L.Γ_d8_ok : SoundG L.pg L.Γ_d8 := ctxC_ok L.Γ_b9_ok L.b9_ok
def L.Δ_d8 : CtxO := L.Δ_b9
theorem L.Δ_d8_ok : SoundGO L.pg L.Δ_d8 := L.Δ_b9_ok
def L.d8_B (K : Bool → Prop) : Prop :=
  L.c0 ([(0, (([L.str3] : List ByteArray), ([L.str4] : List ByteArray)))] : List (Int × (L.yb × L.yb))) ([L.str3] : List ByteArray) (fun r rCode rIndex => L.d6 L.str5 ([(0, (([L.str3] : List ByteArray), ([L.str4] : List ByteArray)))] : List (Int × (L.yb × L.yb))) (fun r1 => L.b0 r1 ([(L.str5, ([L.str3] : List ByteArray))] : List (ByteArray × L.yb)) (fun r2 r3 r4 => (bif (bif (rCode == 0) then (r3 == 0) else false) then L.b7 r ([L.str4] : List ByteArray) (fun r5 => (bif (bif true then r5 else false) then L.b9 r2 ([(L.str5, ([L.str4] : List ByteArray))] : List (ByteArray × L.yb)) (fun r6 => K (bif true then r6 else false)) else K false)) else K false))))
structure L.d8 (K : Bool → Prop) : Prop where
  out : L.d8_B K
def L.d8_ss : List Sh := []
def L.d8_G (vs : List V) (K : V → List Ob → Prop) : Prop := L.d8 (fun r0 => K (.x (.bool r0)) [])
def L.d8_S : SemF := fun args K => argF L.d8_ss args fun a => L.d8_G a K
theorem L.d8_eq (K : V → List Ob → Prop) : run L.pg L.Γ_d8 L.Δ_d8 .leaf .any Tryd.f5 [] K = L.d8_B (fun r0 => K (.x (.bool r0)) []) := by
  kernel_rfl
theorem L.d8_imp (vs : List V) (K : V → List Ob → Prop) : Imp (L.d8_G vs K) (run L.pg L.Γ_d8 L.Δ_d8 .leaf .any Tryd.f5 (mkL L.d8_ss 0 vs) K) :=
  Imp.of (Eq.trans (b := run L.pg L.Γ_d8 L.Δ_d8 .leaf .any Tryd.f5 [] K) (by kernel_rfl) (L.d8_eq K)) fun h => (L.d8.out h)
theorem L.d8_ok : SoundFn L.pg 5 L.d8_S :=
  fn_ok (sem := run L.pg L.Γ_d8 L.Δ_d8 .leaf .any Tryd.f5) (ss := L.d8_ss) (G := L.d8_G) (run_ok L.Γ_d8_ok L.Δ_d8_ok Tryd.func5 (ann := .leaf) (annOk_leaf _)) L.d8_imp
def L.Γ_c7 : Ctx := ctxC L.Γ_d8 5 L.d8_S
theorem L.Γ_c7_ok : SoundG L.pg L.Γ_c7 := ctxC_ok L.Γ_d8_ok L.d8_ok
def L.Δ_c7 : CtxO := L.Δ_d8
theorem L.Δ_c7_ok : SoundGO L.pg L.Δ_c7 := L.Δ_d8_ok
def L.c7_B (s : ByteArray) (K : Int → Prop) : Prop :=
  K (Dg.text_R s)
structure L.c7 (s : ByteArray) (K : Int → Prop) : Prop where
  out : L.c7_B s K
def L.c7_ss : List Sh := [.str]
def L.c7_G (vs : List V) (K : V → List Ob → Prop) : Prop := L.c7 (gS (gA vs 0)) (fun r0 => K (.xi r0) [])
def L.c7_S : SemF := fun args K => argF L.c7_ss args fun a => L.c7_G a K
theorem L.c7_ok : SoundFn L.pg 31 L.c7_S := SoundFn.of_imp Dg.text_ok fun args K h => argF_mono (fun a h => h.out) h
def L.Γ_f4 : Ctx := ctxC L.Γ_c7 31 L.c7_S
theorem L.Γ_f4_ok : SoundG L.pg L.Γ_f4 := ctxC_ok L.Γ_c7_ok L.c7_ok
def L.Δ_f4 : CtxO := L.Δ_c7
theorem L.Δ_f4_ok : SoundGO L.pg L.Δ_f4 := L.Δ_c7_ok
def L.f4_B (list : L.yb) (K : Int → Int → Int → Prop) : Prop :=
  K (Dg.strings_R list).1 (Dg.strings_R list).2.1 (Dg.strings_R list).2.2
structure L.f4 (list : L.yb) (K : Int → Int → Int → Prop) : Prop where
  out : L.f4_B list K
def L.f4_ss : List Sh := [.ro .str]
def L.f4_G (vs : List V) (K : V → List Ob → Prop) : Prop := L.f4 (gR .str (gA vs 0)) (fun r0 r1 r2 => K (.tup [.xi r0, .agg [.xi r1, .xi r2]]) [])
def L.f4_S : SemF := fun args K => argF L.f4_ss args fun a => L.f4_G a K
theorem L.f4_ok : SoundFn L.pg 34 L.f4_S := SoundFn.of_imp Dg.strings_ok fun args K h => argF_mono (fun a h => h.out) h
def L.Γ_c5 : Ctx := ctxC L.Γ_f4 34 L.f4_S
theorem L.Γ_c5_ok : SoundG L.pg L.Γ_c5 := ctxC_ok L.Γ_f4_ok L.f4_ok
def L.Δ_c5 : CtxO := L.Δ_f4
theorem L.Δ_c5_ok : SoundGO L.pg L.Δ_c5 := L.Δ_f4_ok
def L.c5_B (l : L.yb) (K : Int → Prop) : Prop :=
  L.f4 l (fun r rCode rIndex => K r)
structure L.c5 (l : L.yb) (K : Int → Prop) : Prop where
  out : L.c5_B l K
def L.c5_ss : List Sh := [.ro .str]
def L.c5_G (vs : List V) (K : V → List Ob → Prop) : Prop := L.c5 (gR .str (gA vs 0)) (fun r0 => K (.xi r0) [])
def L.c5_S : SemF := fun args K => argF L.c5_ss args fun a => L.c5_G a K
theorem L.c5_eq (l : L.yb) (K : V → List Ob → Prop) : run L.pg L.Γ_c5 L.Δ_c5 .leaf .any Tryd.f33 [.ro .str l] K = L.c5_B l (fun r0 => K (.xi r0) []) := by
  kernel_rfl
theorem L.c5_imp (vs : List V) (K : V → List Ob → Prop) : Imp (L.c5_G vs K) (run L.pg L.Γ_c5 L.Δ_c5 .leaf .any Tryd.f33 (mkL L.c5_ss 0 vs) K) :=
  Imp.of (Eq.trans (b := run L.pg L.Γ_c5 L.Δ_c5 .leaf .any Tryd.f33 [.ro .str (gR .str (gA vs 0))] K) (by kernel_rfl) (L.c5_eq (gR .str (gA vs 0)) K)) fun h => (L.c5.out h)
theorem L.c5_ok : SoundFn L.pg 33 L.c5_S :=
  fn_ok (sem := run L.pg L.Γ_c5 L.Δ_c5 .leaf .any Tryd.f33) (ss := L.c5_ss) (G := L.c5_G) (run_ok L.Γ_c5_ok L.Δ_c5_ok Tryd.func33 (ann := .leaf) (annOk_leaf _)) L.c5_imp
def L.Γ_e7 : Ctx := ctxC L.Γ_c5 33 L.c5_S
theorem L.Γ_e7_ok : SoundG L.pg L.Γ_e7 := ctxC_ok L.Γ_c5_ok L.c5_ok
def L.Δ_e7 : CtxO := L.Δ_c5
theorem L.Δ_e7_ok : SoundGO L.pg L.Δ_e7 := L.Δ_c5_ok
def L.e7_B (a : Int) (K : Bool → Prop) : Prop :=
  K (bif (decide (a ≥ 0)) then (decide (a < 2305843009213693951)) else false)
structure L.e7 (a : Int) (K : Bool → Prop) : Prop where
  out : L.e7_B a K
def L.e7_ss : List Sh := [.int .i64]
def L.e7_G (vs : List V) (K : V → List Ob → Prop) : Prop := L.e7 (gI (gA vs 0)) (fun r0 => K (.x (.bool r0)) [])
def L.e7_S : SemF := fun args K => argF L.e7_ss args fun a => L.e7_G a K
theorem L.e7_eq (a : Int) (K : V → List Ob → Prop) : run L.pg L.Γ_e7 L.Δ_e7 .leaf .any Tryd.f66 [.xi a] K = L.e7_B a (fun r0 => K (.x (.bool r0)) []) := by
  kernel_rfl
theorem L.e7_imp (vs : List V) (K : V → List Ob → Prop) : Imp (L.e7_G vs K) (run L.pg L.Γ_e7 L.Δ_e7 .leaf .any Tryd.f66 (mkL L.e7_ss 0 vs) K) :=
  Imp.of (Eq.trans (b := run L.pg L.Γ_e7 L.Δ_e7 .leaf .any Tryd.f66 [.xi (gI (gA vs 0))] K) (by kernel_rfl) (L.e7_eq (gI (gA vs 0)) K)) fun h => (L.e7.out h)
theorem L.e7_ok : SoundFn L.pg 66 L.e7_S :=
  fn_ok (sem := run L.pg L.Γ_e7 L.Δ_e7 .leaf .any Tryd.f66) (ss := L.e7_ss) (G := L.e7_G) (run_ok L.Γ_e7_ok L.Δ_e7_ok Tryd.func66 (ann := .leaf) (annOk_leaf _)) L.e7_imp
def L.Γ_c2 : Ctx := ctxC L.Γ_e7 66 L.e7_S
theorem L.Γ_c2_ok : SoundG L.pg L.Γ_c2 := ctxC_ok L.Γ_e7_ok L.e7_ok
def L.Δ_c2 : CtxO := L.Δ_e7
theorem L.Δ_c2_ok : SoundGO L.pg L.Δ_c2 := L.Δ_e7_ok
def L.c2_L1_b (a1 : Int) (b1 : Int) (out : Int) (self : Int → Int → Int → Prop) (Kx0 : Int → Prop) : Prop :=
  (bif (decide (b1 > 0)) then (bif ((i64 ((BitVec.ofInt 64 b1 &&& BitVec.ofInt 64 1).toNat)) == 1) then ((2305843009213693951 : Int) ≠ 0) ∧ ((2305843009213693951 : Int) ≠ 0) ∧ (0 ≤ (1 : Int)) ∧ self ((i64 ((2 : Int) * a1)).tmod 2305843009213693951) (b1.fdiv (2 ^ (min (1 : Int).toNat 64))) ((i64 (out + a1)).tmod 2305843009213693951) else ((2305843009213693951 : Int) ≠ 0) ∧ (0 ≤ (1 : Int)) ∧ self ((i64 ((2 : Int) * a1)).tmod 2305843009213693951) (b1.fdiv (2 ^ (min (1 : Int).toNat 64))) out) else Kx0 out)
def L.c2_L1_R  : Nat → Int → Int → Int → (Int → Prop) → Prop
  | 0, _, _, _, _ => False
  | fu + 1, a1, b1, out, Kx0 => L.c2_L1_b a1 b1 out (fun a1 b1 out => L.c2_L1_R fu a1 b1 out Kx0) Kx0
structure L.c2_L1 (a1 : Int) (b1 : Int) (out : Int) (Kx0 : Int → Prop) : Prop where
  out : ∃ fu, L.c2_L1_R fu a1 b1 out Kx0
def L.c2_L1_d : LoopD := { base := 0, vecs := [], flds := [], keep := [0, 1, 5], out := [5], rets := [4], rv := [], rbase := 0 }
def L.c2_L1_ss : List Sh := [.int .i64, .int .i64, .int .i64]
def L.c2_L1_os : List OSh := []
def L.c2_L1_G (vs : List V) (st : List Ob) (K : Ex → St) : Prop := L.c2_L1 (gI (gA vs 0)) (gI (gA vs 1)) (gI (gA vs 2)) (fun q0_ => K (.exit 0) (bld [5] [.xi q0_] 0 21) [])
def L.c2_L1_F (vs : List V) (st : List Ob) (K : Ex → St) : Prop := fitF L.c2_L1_ss L.c2_L1_os vs st (L.c2_L1_G vs st K)
theorem L.c2_L1_eq  (K : Ex → St) : ∀ (fu : Nat) (a1 : Int) (b1 : Int) (out : Int), L.c2_L1_R fu a1 b1 out (fun q0_ => K (.exit 0) (bld [5] [.xi q0_] 0 21) []) = iterL (stepL (exec L.pg (CC L.pg L.Γ_c2 L.Δ_c2) (drawD L.pg L.Γ_c2 L.Δ_c2) .leaf (sub [true, true, false, false, false] (codeOf Tryd.f65))) 0 L.c2_L1_d K) fu (bld L.c2_L1_d.keep [.xi a1, .xi b1, .xi out] 0 21) [] := by
  intro fu
  induction fu with
  | zero => intros; rfl
  | succ fu ih =>
    intro a1 b1 out
    have e : (fun a1 b1 out => L.c2_L1_R fu a1 b1 out (fun q0_ => K (.exit 0) (bld [5] [.xi q0_] 0 21) [])) = fun a1 b1 out => iterL (stepL (exec L.pg (CC L.pg L.Γ_c2 L.Δ_c2) (drawD L.pg L.Γ_c2 L.Δ_c2) .leaf (sub [true, true, false, false, false] (codeOf Tryd.f65))) 0 L.c2_L1_d K) fu (bld L.c2_L1_d.keep [.xi a1, .xi b1, .xi out] 0 21) [] := by
      funext a1 b1 out; exact ih a1 b1 out
    show L.c2_L1_b a1 b1 out (fun a1 b1 out => L.c2_L1_R fu a1 b1 out (fun q0_ => K (.exit 0) (bld [5] [.xi q0_] 0 21) [])) (fun q0_ => K (.exit 0) (bld [5] [.xi q0_] 0 21) []) = _
    rw [e]
    kernel_rfl
theorem L.c2_L1_imp (vs : List V) (st : List Ob) (K : Ex → St) (h : L.c2_L1_G vs st K) : ∃ fu, iterL (stepL (exec L.pg (CC L.pg L.Γ_c2 L.Δ_c2) (drawD L.pg L.Γ_c2 L.Δ_c2) .leaf (sub [true, true, false, false, false] (codeOf Tryd.f65))) 0 L.c2_L1_d K) fu (bld L.c2_L1_d.keep (mkL L.c2_L1_ss 0 vs) 0 21) (mkOs L.c2_L1_os 0 st) :=
  exMap (fun fu h => @Eq.mp _ _ (Eq.trans (L.c2_L1_eq  K fu (gI (gA vs 0)) (gI (gA vs 1)) (gI (gA vs 2))) (by kernel_rfl)) h) (L.c2_L1.out h)
theorem L.c2_L1_ok : AnnOk L.pg (CC L.pg L.Γ_c2 L.Δ_c2) (drawD L.pg L.Γ_c2 L.Δ_c2) 0 (.lift L.c2_L1_d 21 L.c2_L1_F) (.loop (sub [true, true, false, false, false] (codeOf Tryd.f65))) :=
  lift_ok (an := .leaf) (ss := L.c2_L1_ss) (os := L.c2_L1_os) (G := L.c2_L1_G) rfl (Nat.le_of_ble_eq_true rfl) (annOk_leaf _) (L.c2_L1_imp)
def L.c2_B (a : Int) (b : Int) (K : Int → Prop) : Prop :=
  L.c2_L1 a b 0 (fun out => K out)
structure L.c2 (a : Int) (b : Int) (K : Int → Prop) : Prop where
  out : L.c2_B a b K
def L.c2_ss : List Sh := [.int .i64, .int .i64]
def L.c2_G (vs : List V) (K : V → List Ob → Prop) : Prop := L.c2 (gI (gA vs 0)) (gI (gA vs 1)) (fun r0 => K (.xi r0) [])
def L.c2_S : SemF := fun args K => argF L.c2_ss args fun a => L.c2_G a K
theorem L.c2_eq (a : Int) (b : Int) (K : V → List Ob → Prop) : run L.pg L.Γ_c2 L.Δ_c2 (.node .leaf (.node .leaf (.node (.lift L.c2_L1_d 21 L.c2_L1_F) .leaf))) .any Tryd.f65 [.xi a, .xi b] K = L.c2_B a b (fun r0 => K (.xi r0) []) := by
  kernel_rfl
theorem L.c2_imp (vs : List V) (K : V → List Ob → Prop) : Imp (L.c2_G vs K) (run L.pg L.Γ_c2 L.Δ_c2 (.node .leaf (.node .leaf (.node (.lift L.c2_L1_d 21 L.c2_L1_F) .leaf))) .any Tryd.f65 (mkL L.c2_ss 0 vs) K) :=
  Imp.of (Eq.trans (b := run L.pg L.Γ_c2 L.Δ_c2 (.node .leaf (.node .leaf (.node (.lift L.c2_L1_d 21 L.c2_L1_F) .leaf))) .any Tryd.f65 [.xi (gI (gA vs 0)), .xi (gI (gA vs 1))] K) (by kernel_rfl) (L.c2_eq (gI (gA vs 0)) (gI (gA vs 1)) K)) fun h => (L.c2.out h)
theorem L.c2_ok : SoundFn L.pg 65 L.c2_S :=
  fn_ok (sem := run L.pg L.Γ_c2 L.Δ_c2 (.node .leaf (.node .leaf (.node (.lift L.c2_L1_d 21 L.c2_L1_F) .leaf))) .any Tryd.f65) (ss := L.c2_ss) (G := L.c2_G) (run_ok L.Γ_c2_ok L.Δ_c2_ok Tryd.func65 (ann := (.node .leaf (.node .leaf (.node (.lift L.c2_L1_d 21 L.c2_L1_F) .leaf)))) ⟨(annOk_leaf _), ⟨(annOk_leaf _), ⟨L.c2_L1_ok, (annOk_leaf _)⟩⟩⟩) L.c2_imp
def L.Γ_e0 : Ctx := ctxC L.Γ_c2 65 L.c2_S
theorem L.Γ_e0_ok : SoundG L.pg L.Γ_e0 := ctxC_ok L.Γ_c2_ok L.c2_ok
def L.Δ_e0 : CtxO := L.Δ_c2
theorem L.Δ_e0_ok : SoundGO L.pg L.Δ_e0 := L.Δ_c2_ok
def L.e0_B (s_0 : Int) (s_1 : Int) (factor : Int) (K : Int → Prop) : Prop :=
  (inB 0 2) ∧ (((0 : Int).toNat) < 2) ∧ L.c2 (([s_0, s_1] : List Int).getD ((0 : Int).toNat) 0) factor (fun r => (inB 1 2) ∧ (((1 : Int).toNat) < 2) ∧ ((2305843009213693951 : Int) ≠ 0) ∧ K ((i64 (r + (([s_0, s_1] : List Int).getD ((1 : Int).toNat) 0))).tmod 2305843009213693951))
structure L.e0 (s_0 : Int) (s_1 : Int) (factor : Int) (K : Int → Prop) : Prop where
  out : L.e0_B s_0 s_1 factor K
def L.e0_ss : List Sh := [.agg [.int .i64, .int .i64], .int .i64]
def L.e0_G (vs : List V) (K : V → List Ob → Prop) : Prop := L.e0 (gI ((gC (gA vs 0)).getD 0 .any)) (gI ((gC (gA vs 0)).getD 1 .any)) (gI (gA vs 1)) (fun r0 => K (.xi r0) [])
def L.e0_S : SemF := fun args K => argF L.e0_ss args fun a => L.e0_G a K
theorem L.e0_eq (s_0 : Int) (s_1 : Int) (factor : Int) (K : V → List Ob → Prop) : run L.pg L.Γ_e0 L.Δ_e0 .leaf .any Tryd.f55 [.agg [.xi s_0, .xi s_1], .xi factor] K = L.e0_B s_0 s_1 factor (fun r0 => K (.xi r0) []) := by
  kernel_rfl
theorem L.e0_imp (vs : List V) (K : V → List Ob → Prop) : Imp (L.e0_G vs K) (run L.pg L.Γ_e0 L.Δ_e0 .leaf .any Tryd.f55 (mkL L.e0_ss 0 vs) K) :=
  Imp.of (Eq.trans (b := run L.pg L.Γ_e0 L.Δ_e0 .leaf .any Tryd.f55 [.agg [.xi (gI ((gC (gA vs 0)).getD 0 .any)), .xi (gI ((gC (gA vs 0)).getD 1 .any))], .xi (gI (gA vs 1))] K) (by kernel_rfl) (L.e0_eq (gI ((gC (gA vs 0)).getD 0 .any)) (gI ((gC (gA vs 0)).getD 1 .any)) (gI (gA vs 1)) K)) fun h => (L.e0.out h)
theorem L.e0_ok : SoundFn L.pg 55 L.e0_S :=
  fn_ok (sem := run L.pg L.Γ_e0 L.Δ_e0 .leaf .any Tryd.f55) (ss := L.e0_ss) (G := L.e0_G) (run_ok L.Γ_e0_ok L.Δ_e0_ok Tryd.func55 (ann := .leaf) (annOk_leaf _)) L.e0_imp
def L.Γ_e5 : Ctx := ctxC L.Γ_e0 55 L.e0_S
theorem L.Γ_e5_ok : SoundG L.pg L.Γ_e5 := ctxC_ok L.Γ_e0_ok L.e0_ok
def L.Δ_e5 : CtxO := L.Δ_e0
theorem L.Δ_e5_ok : SoundGO L.pg L.Δ_e5 := L.Δ_e0_ok
def L.e5_B (a : Int) (b : Int) (K : Int → Prop) : Prop :=
  L.e0 b 7 31 (fun r => L.e0 a r 1000003 (fun r1 => K r1))
structure L.e5 (a : Int) (b : Int) (K : Int → Prop) : Prop where
  out : L.e5_B a b K
def L.e5_ss : List Sh := [.int .i64, .int .i64]
def L.e5_G (vs : List V) (K : V → List Ob → Prop) : Prop := L.e5 (gI (gA vs 0)) (gI (gA vs 1)) (fun r0 => K (.xi r0) [])
def L.e5_S : SemF := fun args K => argF L.e5_ss args fun a => L.e5_G a K
theorem L.e5_eq (a : Int) (b : Int) (K : V → List Ob → Prop) : run L.pg L.Γ_e5 L.Δ_e5 .leaf .any Tryd.f56 [.xi a, .xi b] K = L.e5_B a b (fun r0 => K (.xi r0) []) := by
  kernel_rfl
theorem L.e5_imp (vs : List V) (K : V → List Ob → Prop) : Imp (L.e5_G vs K) (run L.pg L.Γ_e5 L.Δ_e5 .leaf .any Tryd.f56 (mkL L.e5_ss 0 vs) K) :=
  Imp.of (Eq.trans (b := run L.pg L.Γ_e5 L.Δ_e5 .leaf .any Tryd.f56 [.xi (gI (gA vs 0)), .xi (gI (gA vs 1))] K) (by kernel_rfl) (L.e5_eq (gI (gA vs 0)) (gI (gA vs 1)) K)) fun h => (L.e5.out h)
theorem L.e5_ok : SoundFn L.pg 56 L.e5_S :=
  fn_ok (sem := run L.pg L.Γ_e5 L.Δ_e5 .leaf .any Tryd.f56) (ss := L.e5_ss) (G := L.e5_G) (run_ok L.Γ_e5_ok L.Δ_e5_ok Tryd.func56 (ann := .leaf) (annOk_leaf _)) L.e5_imp
def L.Γ_b3 : Ctx := ctxC L.Γ_e5 56 L.e5_S
theorem L.Γ_b3_ok : SoundG L.pg L.Γ_b3 := ctxC_ok L.Γ_e5_ok L.e5_ok
def L.Δ_b3 : CtxO := L.Δ_e5
theorem L.Δ_b3_ok : SoundGO L.pg L.Δ_b3 := L.Δ_e5_ok
def L.b3_L1_b (v10 : Int) (v101 : Int) (v11 : Int) (self : Int → Prop) (Kx0 : Prop) (Kr : Int → Int → Int → Prop) : Prop :=
  (bif (decide (v11 < 2)) then (inB v11 2) ∧ L.e7 (([v10, v101] : List Int).getD v11.toNat 0) (fun r => (bif (!r) then Kr 0 3 v11 else self (i64 (v11 + 1)))) else Kx0)
def L.b3_L1_R (v10 : Int) (v101 : Int) : Nat → Int → (Prop) → (Int → Int → Int → Prop) → Prop
  | 0, _, _, _ => False
  | fu + 1, v11, Kx0, Kr => L.b3_L1_b v10 v101 v11 (fun v11 => L.b3_L1_R v10 v101 fu v11 Kx0 Kr) Kx0 Kr
structure L.b3_L1 (v10 : Int) (v101 : Int) (v11 : Int) (Kx0 : Prop) (Kr : Int → Int → Int → Prop) : Prop where
  out : ∃ fu, L.b3_L1_R v10 v101 fu v11 Kx0 Kr
def L.b3_L1_d : LoopD := { base := 1, vecs := [], flds := [], keep := [0, 1, 5, 10, 11], out := [0, 1, 5], rets := [4, 5], rv := [], rbase := 0 }
def L.b3_L1_ss : List Sh := [.int .i64, .int .i64, .cl 0 0, .agg [.int .i64, .int .i64], .int .i64]
def L.b3_L1_os : List OSh := [.cells [.int .i64, .int .i64]]
def L.b3_L1_G (vs : List V) (st : List Ob) (K : Ex → St) : Prop := L.b3_L1 (gI ((gC (gA vs 3)).getD 0 .any)) (gI ((gC (gA vs 3)).getD 1 .any)) (gI (gA vs 4)) (K (.exit 0) (bld [0, 1, 5] [.xi (gI (gA vs 0)), .xi (gI (gA vs 1)), .cl 0 0] 0 25) [.cells [.xi (cI st 0 0), .xi (cI st 0 1)]]) (fun q0_ q1_ q2_ => K .ret (bld [4, 5] [.xi q0_, .cl 0 0] 0 25) [.cells [.xi q1_, .xi q2_]])
def L.b3_L1_F (vs : List V) (st : List Ob) (K : Ex → St) : Prop := fitF L.b3_L1_ss L.b3_L1_os vs st (L.b3_L1_G vs st K)
theorem L.b3_L1_eq (a1 : Int) (b1 : Int) (v10 : Int) (v101 : Int) (m0 : Int) (m01 : Int) (K : Ex → St) : ∀ (fu : Nat) (v11 : Int), L.b3_L1_R v10 v101 fu v11 (K (.exit 0) (bld [0, 1, 5] [.xi a1, .xi b1, .cl 0 0] 0 25) [.cells [.xi m0, .xi m01]]) (fun q0_ q1_ q2_ => K .ret (bld [4, 5] [.xi q0_, .cl 0 0] 0 25) [.cells [.xi q1_, .xi q2_]]) = iterL (stepL (exec L.pg (CC L.pg L.Γ_b3 L.Δ_b3) (drawD L.pg L.Γ_b3 L.Δ_b3) .leaf (sub [true, false, true, false, false] (codeOf Tryd.f57))) 1 L.b3_L1_d K) fu (bld L.b3_L1_d.keep [.xi a1, .xi b1, .cl 0 0, .agg [.xi v10, .xi v101], .xi v11] 0 25) [.cells [.xi m0, .xi m01]] := by
  intro fu
  induction fu with
  | zero => intros; rfl
  | succ fu ih =>
    intro v11
    have e : (fun v11 => L.b3_L1_R v10 v101 fu v11 (K (.exit 0) (bld [0, 1, 5] [.xi a1, .xi b1, .cl 0 0] 0 25) [.cells [.xi m0, .xi m01]]) (fun q0_ q1_ q2_ => K .ret (bld [4, 5] [.xi q0_, .cl 0 0] 0 25) [.cells [.xi q1_, .xi q2_]])) = fun v11 => iterL (stepL (exec L.pg (CC L.pg L.Γ_b3 L.Δ_b3) (drawD L.pg L.Γ_b3 L.Δ_b3) .leaf (sub [true, false, true, false, false] (codeOf Tryd.f57))) 1 L.b3_L1_d K) fu (bld L.b3_L1_d.keep [.xi a1, .xi b1, .cl 0 0, .agg [.xi v10, .xi v101], .xi v11] 0 25) [.cells [.xi m0, .xi m01]] := by
      funext v11; exact ih v11
    show L.b3_L1_b v10 v101 v11 (fun v11 => L.b3_L1_R v10 v101 fu v11 (K (.exit 0) (bld [0, 1, 5] [.xi a1, .xi b1, .cl 0 0] 0 25) [.cells [.xi m0, .xi m01]]) (fun q0_ q1_ q2_ => K .ret (bld [4, 5] [.xi q0_, .cl 0 0] 0 25) [.cells [.xi q1_, .xi q2_]])) (K (.exit 0) (bld [0, 1, 5] [.xi a1, .xi b1, .cl 0 0] 0 25) [.cells [.xi m0, .xi m01]]) (fun q0_ q1_ q2_ => K .ret (bld [4, 5] [.xi q0_, .cl 0 0] 0 25) [.cells [.xi q1_, .xi q2_]]) = _
    rw [e]
    kernel_rfl
theorem L.b3_L1_imp (vs : List V) (st : List Ob) (K : Ex → St) (h : L.b3_L1_G vs st K) : ∃ fu, iterL (stepL (exec L.pg (CC L.pg L.Γ_b3 L.Δ_b3) (drawD L.pg L.Γ_b3 L.Δ_b3) .leaf (sub [true, false, true, false, false] (codeOf Tryd.f57))) 1 L.b3_L1_d K) fu (bld L.b3_L1_d.keep (mkL L.b3_L1_ss 0 vs) 0 25) (mkOs L.b3_L1_os 0 st) :=
  exMap (fun fu h => @Eq.mp _ _ (Eq.trans (L.b3_L1_eq (gI (gA vs 0)) (gI (gA vs 1)) (gI ((gC (gA vs 3)).getD 0 .any)) (gI ((gC (gA vs 3)).getD 1 .any)) (cI st 0 0) (cI st 0 1) K fu (gI (gA vs 4))) (by kernel_rfl)) h) (L.b3_L1.out h)
theorem L.b3_L1_ok : AnnOk L.pg (CC L.pg L.Γ_b3 L.Δ_b3) (drawD L.pg L.Γ_b3 L.Δ_b3) 0 (.lift L.b3_L1_d 25 L.b3_L1_F) (.loop (sub [true, false, true, false, false] (codeOf Tryd.f57))) :=
  lift_ok (an := .leaf) (ss := L.b3_L1_ss) (os := L.b3_L1_os) (G := L.b3_L1_G) rfl (Nat.le_of_ble_eq_true rfl) (annOk_leaf _) (L.b3_L1_imp)
def L.b3_B (a : Int) (b : Int) (K : Int → Int → Int → Prop) : Prop :=
  L.b3_L1 a b 0 (L.e5 a b (fun r => K r 0 0)) (fun r1 m m1 => K r1 m m1)
structure L.b3 (a : Int) (b : Int) (K : Int → Int → Int → Prop) : Prop where
  out : L.b3_B a b K
def L.b3_ss : List Sh := [.int .i64, .int .i64]
def L.b3_G (vs : List V) (K : V → List Ob → Prop) : Prop := L.b3 (gI (gA vs 0)) (gI (gA vs 1)) (fun r0 r1 r2 => K (.tup [.xi r0, .agg [.xi r1, .xi r2]]) [])
def L.b3_S : SemF := fun args K => argF L.b3_ss args fun a => L.b3_G a K
theorem L.b3_eq (a : Int) (b : Int) (K : V → List Ob → Prop) : run L.pg L.Γ_b3 L.Δ_b3 (.node .leaf (.node (.node .leaf (.lift L.b3_L1_d 25 L.b3_L1_F)) .leaf)) .any Tryd.f57 [.xi a, .xi b] K = L.b3_B a b (fun r0 r1 r2 => K (.tup [.xi r0, .agg [.xi r1, .xi r2]]) []) := by
  kernel_rfl
theorem L.b3_imp (vs : List V) (K : V → List Ob → Prop) : Imp (L.b3_G vs K) (run L.pg L.Γ_b3 L.Δ_b3 (.node .leaf (.node (.node .leaf (.lift L.b3_L1_d 25 L.b3_L1_F)) .leaf)) .any Tryd.f57 (mkL L.b3_ss 0 vs) K) :=
  Imp.of (Eq.trans (b := run L.pg L.Γ_b3 L.Δ_b3 (.node .leaf (.node (.node .leaf (.lift L.b3_L1_d 25 L.b3_L1_F)) .leaf)) .any Tryd.f57 [.xi (gI (gA vs 0)), .xi (gI (gA vs 1))] K) (by kernel_rfl) (L.b3_eq (gI (gA vs 0)) (gI (gA vs 1)) K)) fun h => (L.b3.out h)
theorem L.b3_ok : SoundFn L.pg 57 L.b3_S :=
  fn_ok (sem := run L.pg L.Γ_b3 L.Δ_b3 (.node .leaf (.node (.node .leaf (.lift L.b3_L1_d 25 L.b3_L1_F)) .leaf)) .any Tryd.f57) (ss := L.b3_ss) (G := L.b3_G) (run_ok L.Γ_b3_ok L.Δ_b3_ok Tryd.func57 (ann := (.node .leaf (.node (.node .leaf (.lift L.b3_L1_d 25 L.b3_L1_F)) .leaf))) ⟨(annOk_leaf _), ⟨⟨(annOk_leaf _), L.b3_L1_ok⟩, (annOk_leaf _)⟩⟩) L.b3_imp
def L.Γ_a6 : Ctx := ctxC L.Γ_b3 57 L.b3_S
theorem L.Γ_a6_ok : SoundG L.pg L.Γ_a6 := ctxC_ok L.Γ_b3_ok L.b3_ok
def L.Δ_a6 : CtxO := L.Δ_b3
theorem L.Δ_a6_ok : SoundGO L.pg L.Δ_a6 := L.Δ_b3_ok
def L.a6_L1_b (v7 : (List Int)) (v8 : Int) (h1 : Int) (v9 : Int) (self : Int → Int → Prop) (Kx0 : Int → Prop) : Prop :=
  (bif (decide (v9 < v8)) then (inB v9 v7.length) ∧ L.b3 h1 (v7.getD v9.toNat 0) (fun r rCode rIndex => self r (i64 (v9 + 1))) else Kx0 h1)
def L.a6_L1_R (v7 : (List Int)) (v8 : Int) : Nat → Int → Int → (Int → Prop) → Prop
  | 0, _, _, _ => False
  | fu + 1, h1, v9, Kx0 => L.a6_L1_b v7 v8 h1 v9 (fun h1 v9 => L.a6_L1_R v7 v8 fu h1 v9 Kx0) Kx0
structure L.a6_L1 (v7 : (List Int)) (v8 : Int) (h1 : Int) (v9 : Int) (Kx0 : Int → Prop) : Prop where
  out : ∃ fu, L.a6_L1_R v7 v8 fu h1 v9 Kx0
def L.a6_L1_d : LoopD := { base := 0, vecs := [], flds := [], keep := [0, 7, 8, 9], out := [0], rets := [4], rv := [], rbase := 0 }
def L.a6_L1_ss : List Sh := [.int .i64, .ro (.int .i64), .int .i64, .int .i64]
def L.a6_L1_os : List OSh := []
def L.a6_L1_G (vs : List V) (st : List Ob) (K : Ex → St) : Prop := L.a6_L1 (gR (.int .i64) (gA vs 1)) (gI (gA vs 2)) (gI (gA vs 0)) (gI (gA vs 3)) (fun q0_ => K (.exit 0) (bld [0] [.xi q0_] 0 21) [])
def L.a6_L1_F (vs : List V) (st : List Ob) (K : Ex → St) : Prop := fitF L.a6_L1_ss L.a6_L1_os vs st (L.a6_L1_G vs st K)
theorem L.a6_L1_eq (v7 : (List Int)) (v8 : Int) (K : Ex → St) : ∀ (fu : Nat) (h1 : Int) (v9 : Int), L.a6_L1_R v7 v8 fu h1 v9 (fun q0_ => K (.exit 0) (bld [0] [.xi q0_] 0 21) []) = iterL (stepL (exec L.pg (CC L.pg L.Γ_a6 L.Δ_a6) (drawD L.pg L.Γ_a6 L.Δ_a6) .leaf (sub [true, false, true, false, false] (codeOf Tryd.f35))) 0 L.a6_L1_d K) fu (bld L.a6_L1_d.keep [.xi h1, .ro (.int .i64) v7, .xi v8, .xi v9] 0 21) [] := by
  intro fu
  induction fu with
  | zero => intros; rfl
  | succ fu ih =>
    intro h1 v9
    have e : (fun h1 v9 => L.a6_L1_R v7 v8 fu h1 v9 (fun q0_ => K (.exit 0) (bld [0] [.xi q0_] 0 21) [])) = fun h1 v9 => iterL (stepL (exec L.pg (CC L.pg L.Γ_a6 L.Δ_a6) (drawD L.pg L.Γ_a6 L.Δ_a6) .leaf (sub [true, false, true, false, false] (codeOf Tryd.f35))) 0 L.a6_L1_d K) fu (bld L.a6_L1_d.keep [.xi h1, .ro (.int .i64) v7, .xi v8, .xi v9] 0 21) [] := by
      funext h1 v9; exact ih h1 v9
    show L.a6_L1_b v7 v8 h1 v9 (fun h1 v9 => L.a6_L1_R v7 v8 fu h1 v9 (fun q0_ => K (.exit 0) (bld [0] [.xi q0_] 0 21) [])) (fun q0_ => K (.exit 0) (bld [0] [.xi q0_] 0 21) []) = _
    rw [e]
    kernel_rfl
theorem L.a6_L1_imp (vs : List V) (st : List Ob) (K : Ex → St) (h : L.a6_L1_G vs st K) : ∃ fu, iterL (stepL (exec L.pg (CC L.pg L.Γ_a6 L.Δ_a6) (drawD L.pg L.Γ_a6 L.Δ_a6) .leaf (sub [true, false, true, false, false] (codeOf Tryd.f35))) 0 L.a6_L1_d K) fu (bld L.a6_L1_d.keep (mkL L.a6_L1_ss 0 vs) 0 21) (mkOs L.a6_L1_os 0 st) :=
  exMap (fun fu h => @Eq.mp _ _ (Eq.trans (L.a6_L1_eq (gR (.int .i64) (gA vs 1)) (gI (gA vs 2)) K fu (gI (gA vs 0)) (gI (gA vs 3))) (by kernel_rfl)) h) (L.a6_L1.out h)
theorem L.a6_L1_ok : AnnOk L.pg (CC L.pg L.Γ_a6 L.Δ_a6) (drawD L.pg L.Γ_a6 L.Δ_a6) 0 (.lift L.a6_L1_d 21 L.a6_L1_F) (.loop (sub [true, false, true, false, false] (codeOf Tryd.f35))) :=
  lift_ok (an := .leaf) (ss := L.a6_L1_ss) (os := L.a6_L1_os) (G := L.a6_L1_G) rfl (Nat.le_of_ble_eq_true rfl) (annOk_leaf _) (L.a6_L1_imp)
def L.a6_B (h : Int) (list : (List Int)) (K : Int → Prop) : Prop :=
  L.a6_L1 list (list.length : Int) h 0 (fun h1 => K h1)
structure L.a6 (h : Int) (list : (List Int)) (K : Int → Prop) : Prop where
  out : L.a6_B h list K
def L.a6_ss : List Sh := [.int .i64, .ro (.int .i64)]
def L.a6_G (vs : List V) (K : V → List Ob → Prop) : Prop := L.a6 (gI (gA vs 0)) (gR (.int .i64) (gA vs 1)) (fun r0 => K (.xi r0) [])
def L.a6_S : SemF := fun args K => argF L.a6_ss args fun a => L.a6_G a K
theorem L.a6_eq (h : Int) (list : (List Int)) (K : V → List Ob → Prop) : run L.pg L.Γ_a6 L.Δ_a6 (.node .leaf (.node (.node .leaf (.lift L.a6_L1_d 21 L.a6_L1_F)) .leaf)) .any Tryd.f35 [.xi h, .ro (.int .i64) list] K = L.a6_B h list (fun r0 => K (.xi r0) []) := by
  kernel_rfl
theorem L.a6_imp (vs : List V) (K : V → List Ob → Prop) : Imp (L.a6_G vs K) (run L.pg L.Γ_a6 L.Δ_a6 (.node .leaf (.node (.node .leaf (.lift L.a6_L1_d 21 L.a6_L1_F)) .leaf)) .any Tryd.f35 (mkL L.a6_ss 0 vs) K) :=
  Imp.of (Eq.trans (b := run L.pg L.Γ_a6 L.Δ_a6 (.node .leaf (.node (.node .leaf (.lift L.a6_L1_d 21 L.a6_L1_F)) .leaf)) .any Tryd.f35 [.xi (gI (gA vs 0)), .ro (.int .i64) (gR (.int .i64) (gA vs 1))] K) (by kernel_rfl) (L.a6_eq (gI (gA vs 0)) (gR (.int .i64) (gA vs 1)) K)) fun h => (L.a6.out h)
theorem L.a6_ok : SoundFn L.pg 35 L.a6_S :=
  fn_ok (sem := run L.pg L.Γ_a6 L.Δ_a6 (.node .leaf (.node (.node .leaf (.lift L.a6_L1_d 21 L.a6_L1_F)) .leaf)) .any Tryd.f35) (ss := L.a6_ss) (G := L.a6_G) (run_ok L.Γ_a6_ok L.Δ_a6_ok Tryd.func35 (ann := (.node .leaf (.node (.node .leaf (.lift L.a6_L1_d 21 L.a6_L1_F)) .leaf))) ⟨(annOk_leaf _), ⟨⟨(annOk_leaf _), L.a6_L1_ok⟩, (annOk_leaf _)⟩⟩) L.a6_imp
def L.Γ_a0 : Ctx := ctxC L.Γ_a6 35 L.a6_S
theorem L.Γ_a0_ok : SoundG L.pg L.Γ_a0 := ctxC_ok L.Γ_a6_ok L.a6_ok
def L.Δ_a0 : CtxO := L.Δ_a6
theorem L.Δ_a0_ok : SoundGO L.pg L.Δ_a0 := L.Δ_a6_ok
def L.a0_L1_b (v44 : L.T8) (v45 : Int) (h1 : Int) (v46 : Int) (self : Int → Int → Prop) (Kx2 : Int → Prop) : Prop :=
  (bif (decide (v46 < v45)) then (inB v46 v44.length) ∧ ((L.c5 ((v44.getD v46.toNat (0, ([], []))).2.1) (fun r => L.c5 ((v44.getD v46.toNat (0, ([], []))).2.2) (fun r1 => L.a6 h1 ([(v44.getD v46.toNat (0, ([], []))).1, r, r1] : List Int) (fun r2 => self r2 (i64 (v46 + 1)))))) ∧ L.c5 ((v44.getD v46.toNat (0, ([], []))).2.1) (fun r3 => L.c5 ((v44.getD v46.toNat (0, ([], []))).2.2) (fun r4 => L.a6 h1 ([(v44.getD v46.toNat (0, ([], []))).1, r3, r4] : List Int) (fun r5 => self r5 (i64 (v46 + 1)))))) ∧ (L.c5 ((v44.getD v46.toNat (0, ([], []))).2.1) (fun r6 => (L.c5 ((v44.getD v46.toNat (0, ([], []))).2.2) (fun r7 => L.a6 h1 ([(v44.getD v46.toNat (0, ([], []))).1, r6, r7] : List Int) (fun r8 => self r8 (i64 (v46 + 1))))) ∧ (L.c5 ((v44.getD v46.toNat (0, ([], []))).2.2) (fun r9 => L.a6 h1 ([(v44.getD v46.toNat (0, ([], []))).1, r6, r9] : List Int) (fun r10 => self r10 (i64 (v46 + 1))))) ∧ L.c5 ((v44.getD v46.toNat (0, ([], []))).2.2) (fun r11 => L.a6 h1 ([(v44.getD v46.toNat (0, ([], []))).1, r6, r11] : List Int) (fun r12 => self r12 (i64 (v46 + 1)))))) ∧ (L.c5 ((v44.getD v46.toNat (0, ([], []))).2.1) (fun r13 => L.c5 ((v44.getD v46.toNat (0, ([], []))).2.2) (fun r14 => L.a6 h1 ([(v44.getD v46.toNat (0, ([], []))).1, r13, r14] : List Int) (fun r15 => self r15 (i64 (v46 + 1)))))) ∧ L.c5 ((v44.getD v46.toNat (0, ([], []))).2.1) (fun r16 => (L.c5 ((v44.getD v46.toNat (0, ([], []))).2.2) (fun r17 => L.a6 h1 ([(v44.getD v46.toNat (0, ([], []))).1, r16, r17] : List Int) (fun r18 => self r18 (i64 (v46 + 1))))) ∧ L.c5 ((v44.getD v46.toNat (0, ([], []))).2.2) (fun r19 => L.a6 h1 ([(v44.getD v46.toNat (0, ([], []))).1, r16, r19] : List Int) (fun r20 => self r20 (i64 (v46 + 1))))) else Kx2 h1)
def L.a0_L1_R (v44 : L.T8) (v45 : Int) : Nat → Int → Int → (Int → Prop) → Prop
  | 0, _, _, _ => False
  | fu + 1, h1, v46, Kx2 => L.a0_L1_b v44 v45 h1 v46 (fun h1 v46 => L.a0_L1_R v44 v45 fu h1 v46 Kx2) Kx2
structure L.a0_L1 (v44 : L.T8) (v45 : Int) (h1 : Int) (v46 : Int) (Kx2 : Int → Prop) : Prop where
  out : ∃ fu, L.a0_L1_R v44 v45 fu h1 v46 Kx2
def L.a0_L1_d : LoopD := { base := 5, vecs := [], flds := [], keep := [3, 5, 6, 7, 19, 20, 21, 44, 45, 46], out := [3, 5, 6, 7, 19, 20, 21], rets := [2, 3], rv := [], rbase := 5 }
def L.a0_L1_ss : List Sh := [.cl 1 0, .fn 31 [] [], .fn 33 [] [], .int .i64, .ro L.T1, .int .i64, .int .i64, .ro L.T7, .int .i64, .int .i64]
def L.a0_L1_os : List OSh := [.cells [.ro L.T1], .cells [.int .i64, .int .i64], .cells [.int .i64, .int .i64], .cells [.int .i64, .str, .str, .ro .str, .ro L.T7], .vec (.int .i64) true]
def L.a0_L1_G (vs : List V) (st : List Ob) (K : Ex → St) : Prop := L.a0_L1 (gR L.T7 (gA vs 7)) (gI (gA vs 8)) (gI (gA vs 3)) (gI (gA vs 9)) (fun q0_ => K (.exit 2) (bld [3, 5, 6, 7, 19, 20, 21] [.cl 1 0, .fn (.func 31) [] [], .fn (.func 33) [] [], .xi q0_, .ro L.T1 (gR L.T1 (gA vs 4)), .xi (gI (gA vs 5)), .xi (gI (gA vs 6))] 0 67) [.cells [.ro L.T1 (gR L.T1 ((oC (gD st 0)).getD 0 .any))], .cells [.xi (cI st 1 0), .xi (cI st 1 1)], .cells [.xi (cI st 2 0), .xi (cI st 2 1)], .cells [.xi (cI st 3 0), .x (.string (gS ((oC (gD st 3)).getD 1 .any))), .x (.string (gS ((oC (gD st 3)).getD 2 .any))), .ro .str (gR .str ((oC (gD st 3)).getD 3 .any)), .ro L.T7 (gR L.T7 ((oC (gD st 3)).getD 4 .any))], .vec (.int .i64) 0 (oX (.int .i64) (gD st 4))])
def L.a0_L1_F (vs : List V) (st : List Ob) (K : Ex → St) : Prop := fitF L.a0_L1_ss L.a0_L1_os vs st (L.a0_L1_G vs st K)
theorem L.a0_L1_eq (v191 : L.T2) (v201 : Int) (v211 : Int) (v44 : L.T8) (v45 : Int) (m01 : L.T2) (m12 : Int) (m13 : Int) (m22 : Int) (m23 : Int) (m3 : Int) (m31 : ByteArray) (m32 : ByteArray) (m33 : L.yb) (m34 : L.T8) (m41 : (List Int)) (K : Ex → St) : ∀ (fu : Nat) (h1 : Int) (v46 : Int), L.a0_L1_R v44 v45 fu h1 v46 (fun q0_ => K (.exit 2) (bld [3, 5, 6, 7, 19, 20, 21] [.cl 1 0, .fn (.func 31) [] [], .fn (.func 33) [] [], .xi q0_, .ro L.T1 v191, .xi v201, .xi v211] 0 67) [.cells [.ro L.T1 m01], .cells [.xi m12, .xi m13], .cells [.xi m22, .xi m23], .cells [.xi m3, .x (.string m31), .x (.string m32), .ro .str m33, .ro L.T7 m34], .vec (.int .i64) 0 m41]) = iterL (stepL (exec L.pg (CC L.pg L.Γ_a0 L.Δ_a0) (drawD L.pg L.Γ_a0 L.Δ_a0) .leaf (sub [true, true, true, true, true, false, true, false, false, true, true, false, false, true, true, true, false, false] (codeOf Tryd.f12))) 5 L.a0_L1_d K) fu (bld L.a0_L1_d.keep [.cl 1 0, .fn (.func 31) [] [], .fn (.func 33) [] [], .xi h1, .ro L.T1 v191, .xi v201, .xi v211, .ro L.T7 v44, .xi v45, .xi v46] 0 67) [.cells [.ro L.T1 m01], .cells [.xi m12, .xi m13], .cells [.xi m22, .xi m23], .cells [.xi m3, .x (.string m31), .x (.string m32), .ro .str m33, .ro L.T7 m34], .vec (.int .i64) 0 m41] := by
  intro fu
  induction fu with
  | zero => intros; rfl
  | succ fu ih =>
    intro h1 v46
    have e : (fun h1 v46 => L.a0_L1_R v44 v45 fu h1 v46 (fun q0_ => K (.exit 2) (bld [3, 5, 6, 7, 19, 20, 21] [.cl 1 0, .fn (.func 31) [] [], .fn (.func 33) [] [], .xi q0_, .ro L.T1 v191, .xi v201, .xi v211] 0 67) [.cells [.ro L.T1 m01], .cells [.xi m12, .xi m13], .cells [.xi m22, .xi m23], .cells [.xi m3, .x (.string m31), .x (.string m32), .ro .str m33, .ro L.T7 m34], .vec (.int .i64) 0 m41])) = fun h1 v46 => iterL (stepL (exec L.pg (CC L.pg L.Γ_a0 L.Δ_a0) (drawD L.pg L.Γ_a0 L.Δ_a0) .leaf (sub [true, true, true, true, true, false, true, false, false, true, true, false, false, true, true, true, false, false] (codeOf Tryd.f12))) 5 L.a0_L1_d K) fu (bld L.a0_L1_d.keep [.cl 1 0, .fn (.func 31) [] [], .fn (.func 33) [] [], .xi h1, .ro L.T1 v191, .xi v201, .xi v211, .ro L.T7 v44, .xi v45, .xi v46] 0 67) [.cells [.ro L.T1 m01], .cells [.xi m12, .xi m13], .cells [.xi m22, .xi m23], .cells [.xi m3, .x (.string m31), .x (.string m32), .ro .str m33, .ro L.T7 m34], .vec (.int .i64) 0 m41] := by
      funext h1 v46; exact ih h1 v46
    show L.a0_L1_b v44 v45 h1 v46 (fun h1 v46 => L.a0_L1_R v44 v45 fu h1 v46 (fun q0_ => K (.exit 2) (bld [3, 5, 6, 7, 19, 20, 21] [.cl 1 0, .fn (.func 31) [] [], .fn (.func 33) [] [], .xi q0_, .ro L.T1 v191, .xi v201, .xi v211] 0 67) [.cells [.ro L.T1 m01], .cells [.xi m12, .xi m13], .cells [.xi m22, .xi m23], .cells [.xi m3, .x (.string m31), .x (.string m32), .ro .str m33, .ro L.T7 m34], .vec (.int .i64) 0 m41])) (fun q0_ => K (.exit 2) (bld [3, 5, 6, 7, 19, 20, 21] [.cl 1 0, .fn (.func 31) [] [], .fn (.func 33) [] [], .xi q0_, .ro L.T1 v191, .xi v201, .xi v211] 0 67) [.cells [.ro L.T1 m01], .cells [.xi m12, .xi m13], .cells [.xi m22, .xi m23], .cells [.xi m3, .x (.string m31), .x (.string m32), .ro .str m33, .ro L.T7 m34], .vec (.int .i64) 0 m41]) = _
    rw [e]
    kernel_rfl
theorem L.a0_L1_imp (vs : List V) (st : List Ob) (K : Ex → St) (h : L.a0_L1_G vs st K) : ∃ fu, iterL (stepL (exec L.pg (CC L.pg L.Γ_a0 L.Δ_a0) (drawD L.pg L.Γ_a0 L.Δ_a0) .leaf (sub [true, true, true, true, true, false, true, false, false, true, true, false, false, true, true, true, false, false] (codeOf Tryd.f12))) 5 L.a0_L1_d K) fu (bld L.a0_L1_d.keep (mkL L.a0_L1_ss 0 vs) 0 67) (mkOs L.a0_L1_os 0 st) :=
  exMap (fun fu h => @Eq.mp _ _ (Eq.trans (L.a0_L1_eq (gR L.T1 (gA vs 4)) (gI (gA vs 5)) (gI (gA vs 6)) (gR L.T7 (gA vs 7)) (gI (gA vs 8)) (gR L.T1 ((oC (gD st 0)).getD 0 .any)) (cI st 1 0) (cI st 1 1) (cI st 2 0) (cI st 2 1) (cI st 3 0) (gS ((oC (gD st 3)).getD 1 .any)) (gS ((oC (gD st 3)).getD 2 .any)) (gR .str ((oC (gD st 3)).getD 3 .any)) (gR L.T7 ((oC (gD st 3)).getD 4 .any)) (oX (.int .i64) (gD st 4)) K fu (gI (gA vs 3)) (gI (gA vs 9))) (by kernel_rfl)) h) (L.a0_L1.out h)
theorem L.a0_L1_ok : AnnOk L.pg (CC L.pg L.Γ_a0 L.Δ_a0) (drawD L.pg L.Γ_a0 L.Δ_a0) 0 (.lift L.a0_L1_d 67 L.a0_L1_F) (.loop (sub [true, true, true, true, true, false, true, false, false, true, true, false, false, true, true, true, false, false] (codeOf Tryd.f12))) :=
  lift_ok (an := .leaf) (ss := L.a0_L1_ss) (os := L.a0_L1_os) (G := L.a0_L1_G) rfl (Nat.le_of_ble_eq_true rfl) (annOk_leaf _) (L.a0_L1_imp)
def L.a0_J1_B (h : Int) (c4 : L.T8) (m4 : (List Int)) (Kn : Int → (List Int) → Prop) : Prop :=
  L.a0_L1 c4 (c4.length : Int) h 0 (fun h1 => Kn h1 m4)
structure L.a0_J1 (h : Int) (c4 : L.T8) (m4 : (List Int)) (Kn : Int → (List Int) → Prop) : Prop where
  out : L.a0_J1_B h c4 m4 Kn
def L.a0_J1_d : CutD := { base := 5, vecs := [], flds := [], keep := [3, 5, 6, 7, 9, 19, 20, 21], out := [3, 5, 6, 7, 19, 20, 21], rets := [2, 3], ovecs := [], oflds := [], rv := [], rbase := 3 }
def L.a0_J1_ss : List Sh := [.cl 1 0, .fn 31 [] [], .fn 33 [] [], .int .i64, .cl 3 0, .ro L.T1, .int .i64, .int .i64]
def L.a0_J1_os : List OSh := [.cells [.ro L.T1], .cells [.int .i64, .int .i64], .cells [.int .i64, .int .i64], .cells [.int .i64, .str, .str, .ro .str, .ro L.T7], .vec (.int .i64) true]
def L.a0_J1_G (vs : List V) (st : List Ob) (K : Ex → St) : Prop := L.a0_J1 (gI (gA vs 3)) (gR L.T7 ((oC (gD st 3)).getD 4 .any)) (oX (.int .i64) (gD st 4)) (fun q0_ q1_ => K .normal (bld [3, 5, 6, 7, 19, 20, 21] [.cl 1 0, .fn (.func 31) [] [], .fn (.func 33) [] [], .xi q0_, .ro L.T1 (gR L.T1 (gA vs 5)), .xi (gI (gA vs 6)), .xi (gI (gA vs 7))] 0 67) [.cells [.ro L.T1 (gR L.T1 ((oC (gD st 0)).getD 0 .any))], .cells [.xi (cI st 1 0), .xi (cI st 1 1)], .cells [.xi (cI st 2 0), .xi (cI st 2 1)], .cells [.xi (cI st 3 0), .x (.string (gS ((oC (gD st 3)).getD 1 .any))), .x (.string (gS ((oC (gD st 3)).getD 2 .any))), .ro .str (gR .str ((oC (gD st 3)).getD 3 .any)), .ro L.T7 (gR L.T7 ((oC (gD st 3)).getD 4 .any))], .vec (.int .i64) 0 q1_])
def L.a0_J1_F (vs : List V) (st : List Ob) (K : Ex → St) : Prop := fitF L.a0_J1_ss L.a0_J1_os vs st (L.a0_J1_G vs st K)
theorem L.a0_J1_eq (h : Int) (v19 : L.T2) (v20 : Int) (v21 : Int) (m0 : L.T2) (m1 : Int) (m11 : Int) (m2 : Int) (m21 : Int) (c : Int) (c1 : ByteArray) (c2 : ByteArray) (c3 : L.yb) (c4 : L.T8) (m4 : (List Int)) (K : Ex → St) : L.a0_J1_B h c4 m4 (fun q0_ q1_ => K .normal (bld [3, 5, 6, 7, 19, 20, 21] [.cl 1 0, .fn (.func 31) [] [], .fn (.func 33) [] [], .xi q0_, .ro L.T1 v19, .xi v20, .xi v21] 0 67) [.cells [.ro L.T1 m0], .cells [.xi m1, .xi m11], .cells [.xi m2, .xi m21], .cells [.xi c, .x (.string c1), .x (.string c2), .ro .str c3, .ro L.T7 c4], .vec (.int .i64) 0 q1_]) = exec L.pg (CC L.pg L.Γ_a0 L.Δ_a0) (drawD L.pg L.Γ_a0 L.Δ_a0) (.node .leaf (.lift L.a0_L1_d 67 L.a0_L1_F)) (sub [true, true, true, true, true, false, true, false, false, true, true, false, false, true, true] (codeOf Tryd.f12)) (bld L.a0_J1_d.keep [.cl 1 0, .fn (.func 31) [] [], .fn (.func 33) [] [], .xi h, .cl 3 0, .ro L.T1 v19, .xi v20, .xi v21] 0 67) [.cells [.ro L.T1 m0], .cells [.xi m1, .xi m11], .cells [.xi m2, .xi m21], .cells [.xi c, .x (.string c1), .x (.string c2), .ro .str c3, .ro L.T7 c4], .vec (.int .i64) 0 m4] (cutK L.a0_J1_d K) := by
  kernel_rfl
theorem L.a0_J1_ok (vs : List V) (st : List Ob) (K : Ex → St) : Imp (L.a0_J1_G vs st K) (exec L.pg (CC L.pg L.Γ_a0 L.Δ_a0) (drawD L.pg L.Γ_a0 L.Δ_a0) (.node .leaf (.lift L.a0_L1_d 67 L.a0_L1_F)) (sub [true, true, true, true, true, false, true, false, false, true, true, false, false, true, true] (codeOf Tryd.f12)) (bld L.a0_J1_d.keep (mkL L.a0_J1_ss 0 vs) 0 67) (mkOs L.a0_J1_os 0 st) (cutK L.a0_J1_d K)) :=
  Imp.of (Eq.trans (b := exec L.pg (CC L.pg L.Γ_a0 L.Δ_a0) (drawD L.pg L.Γ_a0 L.Δ_a0) (.node .leaf (.lift L.a0_L1_d 67 L.a0_L1_F)) (sub [true, true, true, true, true, false, true, false, false, true, true, false, false, true, true] (codeOf Tryd.f12)) (bld L.a0_J1_d.keep [.cl 1 0, .fn (.func 31) [] [], .fn (.func 33) [] [], .xi (gI (gA vs 3)), .cl 3 0, .ro L.T1 (gR L.T1 (gA vs 5)), .xi (gI (gA vs 6)), .xi (gI (gA vs 7))] 0 67) [.cells [.ro L.T1 (gR L.T1 ((oC (gD st 0)).getD 0 .any))], .cells [.xi (cI st 1 0), .xi (cI st 1 1)], .cells [.xi (cI st 2 0), .xi (cI st 2 1)], .cells [.xi (cI st 3 0), .x (.string (gS ((oC (gD st 3)).getD 1 .any))), .x (.string (gS ((oC (gD st 3)).getD 2 .any))), .ro .str (gR .str ((oC (gD st 3)).getD 3 .any)), .ro L.T7 (gR L.T7 ((oC (gD st 3)).getD 4 .any))], .vec (.int .i64) 0 (oX (.int .i64) (gD st 4))] (cutK L.a0_J1_d K)) (by kernel_rfl) (Eq.symm (L.a0_J1_eq (gI (gA vs 3)) (gR L.T1 (gA vs 5)) (gI (gA vs 6)) (gI (gA vs 7)) (gR L.T1 ((oC (gD st 0)).getD 0 .any)) (cI st 1 0) (cI st 1 1) (cI st 2 0) (cI st 2 1) (cI st 3 0) (gS ((oC (gD st 3)).getD 1 .any)) (gS ((oC (gD st 3)).getD 2 .any)) (gR .str ((oC (gD st 3)).getD 3 .any)) (gR L.T7 ((oC (gD st 3)).getD 4 .any)) (oX (.int .i64) (gD st 4)) K))) fun h => (L.a0_J1.out h)
def L.a0_L2_b (v19 : L.T2) (v20 : Int) (h : Int) (v21 : Int) (self : Int → Int → Prop) (Kx0 : Int → Prop) : Prop :=
  (bif (decide (v21 < v20)) then (inB v21 v19.length) ∧ ((L.c7 ((v19.getD v21.toNat (0, (ByteArray.empty, (ByteArray.empty, ([], []))))).2.1) (fun r => ((L.c7 ((v19.getD v21.toNat (0, (ByteArray.empty, (ByteArray.empty, ([], []))))).2.2.1) (fun r1 => L.c5 ((v19.getD v21.toNat (0, (ByteArray.empty, (ByteArray.empty, ([], []))))).2.2.2.1) (fun r2 => L.a6 h ([(v19.getD v21.toNat (0, (ByteArray.empty, (ByteArray.empty, ([], []))))).1, r, r1, r2] : List Int) (fun r3 => L.a0_J1 r3 ((v19.getD v21.toNat (0, (ByteArray.empty, (ByteArray.empty, ([], []))))).2.2.2.2) ([(v19.getD v21.toNat (0, (ByteArray.empty, (ByteArray.empty, ([], []))))).1, r, r1, r2] : List Int) (fun h1 m => self h1 (i64 (v21 + 1))))))) ∧ L.c7 ((v19.getD v21.toNat (0, (ByteArray.empty, (ByteArray.empty, ([], []))))).2.2.1) (fun r4 => L.c5 ((v19.getD v21.toNat (0, (ByteArray.empty, (ByteArray.empty, ([], []))))).2.2.2.1) (fun r5 => L.a6 h ([(v19.getD v21.toNat (0, (ByteArray.empty, (ByteArray.empty, ([], []))))).1, r, r4, r5] : List Int) (fun r6 => L.a0_J1 r6 ((v19.getD v21.toNat (0, (ByteArray.empty, (ByteArray.empty, ([], []))))).2.2.2.2) ([(v19.getD v21.toNat (0, (ByteArray.empty, (ByteArray.empty, ([], []))))).1, r, r4, r5] : List Int) (fun h1 m => self h1 (i64 (v21 + 1))))))) ∧ L.c7 ((v19.getD v21.toNat (0, (ByteArray.empty, (ByteArray.empty, ([], []))))).2.2.1) (fun r7 => L.c5 ((v19.getD v21.toNat (0, (ByteArray.empty, (ByteArray.empty, ([], []))))).2.2.2.1) (fun r8 => L.a6 h ([(v19.getD v21.toNat (0, (ByteArray.empty, (ByteArray.empty, ([], []))))).1, r, r7, r8] : List Int) (fun r9 => L.a0_J1 r9 ((v19.getD v21.toNat (0, (ByteArray.empty, (ByteArray.empty, ([], []))))).2.2.2.2) ([(v19.getD v21.toNat (0, (ByteArray.empty, (ByteArray.empty, ([], []))))).1, r, r7, r8] : List Int) (fun h1 m => self h1 (i64 (v21 + 1)))))))) ∧ ((L.c7 ((v19.getD v21.toNat (0, (ByteArray.empty, (ByteArray.empty, ([], []))))).2.1) (fun r10 => (L.c7 ((v19.getD v21.toNat (0, (ByteArray.empty, (ByteArray.empty, ([], []))))).2.2.1) (fun r11 => L.c5 ((v19.getD v21.toNat (0, (ByteArray.empty, (ByteArray.empty, ([], []))))).2.2.2.1) (fun r12 => L.a6 h ([(v19.getD v21.toNat (0, (ByteArray.empty, (ByteArray.empty, ([], []))))).1, r10, r11, r12] : List Int) (fun r13 => L.a0_J1 r13 ((v19.getD v21.toNat (0, (ByteArray.empty, (ByteArray.empty, ([], []))))).2.2.2.2) ([(v19.getD v21.toNat (0, (ByteArray.empty, (ByteArray.empty, ([], []))))).1, r10, r11, r12] : List Int) (fun h1 m => self h1 (i64 (v21 + 1))))))) ∧ L.c7 ((v19.getD v21.toNat (0, (ByteArray.empty, (ByteArray.empty, ([], []))))).2.2.1) (fun r14 => L.c5 ((v19.getD v21.toNat (0, (ByteArray.empty, (ByteArray.empty, ([], []))))).2.2.2.1) (fun r15 => L.a6 h ([(v19.getD v21.toNat (0, (ByteArray.empty, (ByteArray.empty, ([], []))))).1, r10, r14, r15] : List Int) (fun r16 => L.a0_J1 r16 ((v19.getD v21.toNat (0, (ByteArray.empty, (ByteArray.empty, ([], []))))).2.2.2.2) ([(v19.getD v21.toNat (0, (ByteArray.empty, (ByteArray.empty, ([], []))))).1, r10, r14, r15] : List Int) (fun h1 m => self h1 (i64 (v21 + 1)))))))) ∧ L.c7 ((v19.getD v21.toNat (0, (ByteArray.empty, (ByteArray.empty, ([], []))))).2.1) (fun r17 => L.c7 ((v19.getD v21.toNat (0, (ByteArray.empty, (ByteArray.empty, ([], []))))).2.2.1) (fun r18 => L.c5 ((v19.getD v21.toNat (0, (ByteArray.empty, (ByteArray.empty, ([], []))))).2.2.2.1) (fun r19 => L.a6 h ([(v19.getD v21.toNat (0, (ByteArray.empty, (ByteArray.empty, ([], []))))).1, r17, r18, r19] : List Int) (fun r20 => L.a0_J1 r20 ((v19.getD v21.toNat (0, (ByteArray.empty, (ByteArray.empty, ([], []))))).2.2.2.2) ([(v19.getD v21.toNat (0, (ByteArray.empty, (ByteArray.empty, ([], []))))).1, r17, r18, r19] : List Int) (fun h1 m => self h1 (i64 (v21 + 1)))))))) ∧ (L.c7 ((v19.getD v21.toNat (0, (ByteArray.empty, (ByteArray.empty, ([], []))))).2.1) (fun r21 => L.c7 ((v19.getD v21.toNat (0, (ByteArray.empty, (ByteArray.empty, ([], []))))).2.2.1) (fun r22 => L.c5 ((v19.getD v21.toNat (0, (ByteArray.empty, (ByteArray.empty, ([], []))))).2.2.2.1) (fun r23 => L.a6 h ([(v19.getD v21.toNat (0, (ByteArray.empty, (ByteArray.empty, ([], []))))).1, r21, r22, r23] : List Int) (fun r24 => L.a0_J1 r24 ((v19.getD v21.toNat (0, (ByteArray.empty, (ByteArray.empty, ([], []))))).2.2.2.2) ([(v19.getD v21.toNat (0, (ByteArray.empty, (ByteArray.empty, ([], []))))).1, r21, r22, r23] : List Int) (fun h1 m => self h1 (i64 (v21 + 1)))))))) ∧ L.c7 ((v19.getD v21.toNat (0, (ByteArray.empty, (ByteArray.empty, ([], []))))).2.1) (fun r25 => L.c7 ((v19.getD v21.toNat (0, (ByteArray.empty, (ByteArray.empty, ([], []))))).2.2.1) (fun r26 => L.c5 ((v19.getD v21.toNat (0, (ByteArray.empty, (ByteArray.empty, ([], []))))).2.2.2.1) (fun r27 => L.a6 h ([(v19.getD v21.toNat (0, (ByteArray.empty, (ByteArray.empty, ([], []))))).1, r25, r26, r27] : List Int) (fun r28 => L.a0_J1 r28 ((v19.getD v21.toNat (0, (ByteArray.empty, (ByteArray.empty, ([], []))))).2.2.2.2) ([(v19.getD v21.toNat (0, (ByteArray.empty, (ByteArray.empty, ([], []))))).1, r25, r26, r27] : List Int) (fun h1 m => self h1 (i64 (v21 + 1)))))))) ∧ (L.c7 ((v19.getD v21.toNat (0, (ByteArray.empty, (ByteArray.empty, ([], []))))).2.1) (fun r29 => (((L.c7 ((v19.getD v21.toNat (0, (ByteArray.empty, (ByteArray.empty, ([], []))))).2.2.1) (fun r30 => L.c5 ((v19.getD v21.toNat (0, (ByteArray.empty, (ByteArray.empty, ([], []))))).2.2.2.1) (fun r31 => L.a6 h ([(v19.getD v21.toNat (0, (ByteArray.empty, (ByteArray.empty, ([], []))))).1, r29, r30, r31] : List Int) (fun r32 => L.a0_J1 r32 ((v19.getD v21.toNat (0, (ByteArray.empty, (ByteArray.empty, ([], []))))).2.2.2.2) ([(v19.getD v21.toNat (0, (ByteArray.empty, (ByteArray.empty, ([], []))))).1, r29, r30, r31] : List Int) (fun h1 m => self h1 (i64 (v21 + 1))))))) ∧ L.c7 ((v19.getD v21.toNat (0, (ByteArray.empty, (ByteArray.empty, ([], []))))).2.2.1) (fun r33 => L.c5 ((v19.getD v21.toNat (0, (ByteArray.empty, (ByteArray.empty, ([], []))))).2.2.2.1) (fun r34 => L.a6 h ([(v19.getD v21.toNat (0, (ByteArray.empty, (ByteArray.empty, ([], []))))).1, r29, r33, r34] : List Int) (fun r35 => L.a0_J1 r35 ((v19.getD v21.toNat (0, (ByteArray.empty, (ByteArray.empty, ([], []))))).2.2.2.2) ([(v19.getD v21.toNat (0, (ByteArray.empty, (ByteArray.empty, ([], []))))).1, r29, r33, r34] : List Int) (fun h1 m => self h1 (i64 (v21 + 1))))))) ∧ L.c7 ((v19.getD v21.toNat (0, (ByteArray.empty, (ByteArray.empty, ([], []))))).2.2.1) (fun r36 => L.c5 ((v19.getD v21.toNat (0, (ByteArray.empty, (ByteArray.empty, ([], []))))).2.2.2.1) (fun r37 => L.a6 h ([(v19.getD v21.toNat (0, (ByteArray.empty, (ByteArray.empty, ([], []))))).1, r29, r36, r37] : List Int) (fun r38 => L.a0_J1 r38 ((v19.getD v21.toNat (0, (ByteArray.empty, (ByteArray.empty, ([], []))))).2.2.2.2) ([(v19.getD v21.toNat (0, (ByteArray.empty, (ByteArray.empty, ([], []))))).1, r29, r36, r37] : List Int) (fun h1 m => self h1 (i64 (v21 + 1))))))) ∧ (((L.c7 ((v19.getD v21.toNat (0, (ByteArray.empty, (ByteArray.empty, ([], []))))).2.2.1) (fun r39 => L.c5 ((v19.getD v21.toNat (0, (ByteArray.empty, (ByteArray.empty, ([], []))))).2.2.2.1) (fun r40 => L.a6 h ([(v19.getD v21.toNat (0, (ByteArray.empty, (ByteArray.empty, ([], []))))).1, r29, r39, r40] : List Int) (fun r41 => L.a0_J1 r41 ((v19.getD v21.toNat (0, (ByteArray.empty, (ByteArray.empty, ([], []))))).2.2.2.2) ([(v19.getD v21.toNat (0, (ByteArray.empty, (ByteArray.empty, ([], []))))).1, r29, r39, r40] : List Int) (fun h1 m => self h1 (i64 (v21 + 1))))))) ∧ L.c7 ((v19.getD v21.toNat (0, (ByteArray.empty, (ByteArray.empty, ([], []))))).2.2.1) (fun r42 => L.c5 ((v19.getD v21.toNat (0, (ByteArray.empty, (ByteArray.empty, ([], []))))).2.2.2.1) (fun r43 => L.a6 h ([(v19.getD v21.toNat (0, (ByteArray.empty, (ByteArray.empty, ([], []))))).1, r29, r42, r43] : List Int) (fun r44 => L.a0_J1 r44 ((v19.getD v21.toNat (0, (ByteArray.empty, (ByteArray.empty, ([], []))))).2.2.2.2) ([(v19.getD v21.toNat (0, (ByteArray.empty, (ByteArray.empty, ([], []))))).1, r29, r42, r43] : List Int) (fun h1 m => self h1 (i64 (v21 + 1))))))) ∧ (L.c7 ((v19.getD v21.toNat (0, (ByteArray.empty, (ByteArray.empty, ([], []))))).2.2.1) (fun r45 => (L.c5 ((v19.getD v21.toNat (0, (ByteArray.empty, (ByteArray.empty, ([], []))))).2.2.2.1) (fun r46 => L.a6 h ([(v19.getD v21.toNat (0, (ByteArray.empty, (ByteArray.empty, ([], []))))).1, r29, r45, r46] : List Int) (fun r47 => L.a0_J1 r47 ((v19.getD v21.toNat (0, (ByteArray.empty, (ByteArray.empty, ([], []))))).2.2.2.2) ([(v19.getD v21.toNat (0, (ByteArray.empty, (ByteArray.empty, ([], []))))).1, r29, r45, r46] : List Int) (fun h1 m => self h1 (i64 (v21 + 1)))))) ∧ (L.c5 ((v19.getD v21.toNat (0, (ByteArray.empty, (ByteArray.empty, ([], []))))).2.2.2.1) (fun r48 => L.a6 h ([(v19.getD v21.toNat (0, (ByteArray.empty, (ByteArray.empty, ([], []))))).1, r29, r45, r48] : List Int) (fun r49 => L.a0_J1 r49 ((v19.getD v21.toNat (0, (ByteArray.empty, (ByteArray.empty, ([], []))))).2.2.2.2) ([(v19.getD v21.toNat (0, (ByteArray.empty, (ByteArray.empty, ([], []))))).1, r29, r45, r48] : List Int) (fun h1 m => self h1 (i64 (v21 + 1)))))) ∧ L.c5 ((v19.getD v21.toNat (0, (ByteArray.empty, (ByteArray.empty, ([], []))))).2.2.2.1) (fun r50 => L.a6 h ([(v19.getD v21.toNat (0, (ByteArray.empty, (ByteArray.empty, ([], []))))).1, r29, r45, r50] : List Int) (fun r51 => L.a0_J1 r51 ((v19.getD v21.toNat (0, (ByteArray.empty, (ByteArray.empty, ([], []))))).2.2.2.2) ([(v19.getD v21.toNat (0, (ByteArray.empty, (ByteArray.empty, ([], []))))).1, r29, r45, r50] : List Int) (fun h1 m => self h1 (i64 (v21 + 1))))))) ∧ (L.c7 ((v19.getD v21.toNat (0, (ByteArray.empty, (ByteArray.empty, ([], []))))).2.2.1) (fun r52 => L.c5 ((v19.getD v21.toNat (0, (ByteArray.empty, (ByteArray.empty, ([], []))))).2.2.2.1) (fun r53 => L.a6 h ([(v19.getD v21.toNat (0, (ByteArray.empty, (ByteArray.empty, ([], []))))).1, r29, r52, r53] : List Int) (fun r54 => L.a0_J1 r54 ((v19.getD v21.toNat (0, (ByteArray.empty, (ByteArray.empty, ([], []))))).2.2.2.2) ([(v19.getD v21.toNat (0, (ByteArray.empty, (ByteArray.empty, ([], []))))).1, r29, r52, r53] : List Int) (fun h1 m => self h1 (i64 (v21 + 1))))))) ∧ L.c7 ((v19.getD v21.toNat (0, (ByteArray.empty, (ByteArray.empty, ([], []))))).2.2.1) (fun r55 => (L.c5 ((v19.getD v21.toNat (0, (ByteArray.empty, (ByteArray.empty, ([], []))))).2.2.2.1) (fun r56 => L.a6 h ([(v19.getD v21.toNat (0, (ByteArray.empty, (ByteArray.empty, ([], []))))).1, r29, r55, r56] : List Int) (fun r57 => L.a0_J1 r57 ((v19.getD v21.toNat (0, (ByteArray.empty, (ByteArray.empty, ([], []))))).2.2.2.2) ([(v19.getD v21.toNat (0, (ByteArray.empty, (ByteArray.empty, ([], []))))).1, r29, r55, r56] : List Int) (fun h1 m => self h1 (i64 (v21 + 1)))))) ∧ L.c5 ((v19.getD v21.toNat (0, (ByteArray.empty, (ByteArray.empty, ([], []))))).2.2.2.1) (fun r58 => L.a6 h ([(v19.getD v21.toNat (0, (ByteArray.empty, (ByteArray.empty, ([], []))))).1, r29, r55, r58] : List Int) (fun r59 => L.a0_J1 r59 ((v19.getD v21.toNat (0, (ByteArray.empty, (ByteArray.empty, ([], []))))).2.2.2.2) ([(v19.getD v21.toNat (0, (ByteArray.empty, (ByteArray.empty, ([], []))))).1, r29, r55, r58] : List Int) (fun h1 m => self h1 (i64 (v21 + 1))))))) ∧ (L.c7 ((v19.getD v21.toNat (0, (ByteArray.empty, (ByteArray.empty, ([], []))))).2.2.1) (fun r60 => L.c5 ((v19.getD v21.toNat (0, (ByteArray.empty, (ByteArray.empty, ([], []))))).2.2.2.1) (fun r61 => L.a6 h ([(v19.getD v21.toNat (0, (ByteArray.empty, (ByteArray.empty, ([], []))))).1, r29, r60, r61] : List Int) (fun r62 => L.a0_J1 r62 ((v19.getD v21.toNat (0, (ByteArray.empty, (ByteArray.empty, ([], []))))).2.2.2.2) ([(v19.getD v21.toNat (0, (ByteArray.empty, (ByteArray.empty, ([], []))))).1, r29, r60, r61] : List Int) (fun h1 m => self h1 (i64 (v21 + 1))))))) ∧ (L.c7 ((v19.getD v21.toNat (0, (ByteArray.empty, (ByteArray.empty, ([], []))))).2.2.1) (fun r63 => L.c5 ((v19.getD v21.toNat (0, (ByteArray.empty, (ByteArray.empty, ([], []))))).2.2.2.1) (fun r64 => L.a6 h ([(v19.getD v21.toNat (0, (ByteArray.empty, (ByteArray.empty, ([], []))))).1, r29, r63, r64] : List Int) (fun r65 => L.a0_J1 r65 ((v19.getD v21.toNat (0, (ByteArray.empty, (ByteArray.empty, ([], []))))).2.2.2.2) ([(v19.getD v21.toNat (0, (ByteArray.empty, (ByteArray.empty, ([], []))))).1, r29, r63, r64] : List Int) (fun h1 m => self h1 (i64 (v21 + 1))))))) ∧ L.c7 ((v19.getD v21.toNat (0, (ByteArray.empty, (ByteArray.empty, ([], []))))).2.2.1) (fun r66 => (L.c5 ((v19.getD v21.toNat (0, (ByteArray.empty, (ByteArray.empty, ([], []))))).2.2.2.1) (fun r67 => L.a6 h ([(v19.getD v21.toNat (0, (ByteArray.empty, (ByteArray.empty, ([], []))))).1, r29, r66, r67] : List Int) (fun r68 => L.a0_J1 r68 ((v19.getD v21.toNat (0, (ByteArray.empty, (ByteArray.empty, ([], []))))).2.2.2.2) ([(v19.getD v21.toNat (0, (ByteArray.empty, (ByteArray.empty, ([], []))))).1, r29, r66, r67] : List Int) (fun h1 m => self h1 (i64 (v21 + 1)))))) ∧ L.c5 ((v19.getD v21.toNat (0, (ByteArray.empty, (ByteArray.empty, ([], []))))).2.2.2.1) (fun r69 => L.a6 h ([(v19.getD v21.toNat (0, (ByteArray.empty, (ByteArray.empty, ([], []))))).1, r29, r66, r69] : List Int) (fun r70 => L.a0_J1 r70 ((v19.getD v21.toNat (0, (ByteArray.empty, (ByteArray.empty, ([], []))))).2.2.2.2) ([(v19.getD v21.toNat (0, (ByteArray.empty, (ByteArray.empty, ([], []))))).1, r29, r66, r69] : List Int) (fun h1 m => self h1 (i64 (v21 + 1)))))))) ∧ (((L.c7 ((v19.getD v21.toNat (0, (ByteArray.empty, (ByteArray.empty, ([], []))))).2.1) (fun r71 => (L.c7 ((v19.getD v21.toNat (0, (ByteArray.empty, (ByteArray.empty, ([], []))))).2.2.1) (fun r72 => L.c5 ((v19.getD v21.toNat (0, (ByteArray.empty, (ByteArray.empty, ([], []))))).2.2.2.1) (fun r73 => L.a6 h ([(v19.getD v21.toNat (0, (ByteArray.empty, (ByteArray.empty, ([], []))))).1, r71, r72, r73] : List Int) (fun r74 => L.a0_J1 r74 ((v19.getD v21.toNat (0, (ByteArray.empty, (ByteArray.empty, ([], []))))).2.2.2.2) ([(v19.getD v21.toNat (0, (ByteArray.empty, (ByteArray.empty, ([], []))))).1, r71, r72, r73] : List Int) (fun h1 m => self h1 (i64 (v21 + 1))))))) ∧ L.c7 ((v19.getD v21.toNat (0, (ByteArray.empty, (ByteArray.empty, ([], []))))).2.2.1) (fun r75 => L.c5 ((v19.getD v21.toNat (0, (ByteArray.empty, (ByteArray.empty, ([], []))))).2.2.2.1) (fun r76 => L.a6 h ([(v19.getD v21.toNat (0, (ByteArray.empty, (ByteArray.empty, ([], []))))).1, r71, r75, r76] : List Int) (fun r77 => L.a0_J1 r77 ((v19.getD v21.toNat (0, (ByteArray.empty, (ByteArray.empty, ([], []))))).2.2.2.2) ([(v19.getD v21.toNat (0, (ByteArray.empty, (ByteArray.empty, ([], []))))).1, r71, r75, r76] : List Int) (fun h1 m => self h1 (i64 (v21 + 1)))))))) ∧ L.c7 ((v19.getD v21.toNat (0, (ByteArray.empty, (ByteArray.empty, ([], []))))).2.1) (fun r78 => L.c7 ((v19.getD v21.toNat (0, (ByteArray.empty, (ByteArray.empty, ([], []))))).2.2.1) (fun r79 => L.c5 ((v19.getD v21.toNat (0, (ByteArray.empty, (ByteArray.empty, ([], []))))).2.2.2.1) (fun r80 => L.a6 h ([(v19.getD v21.toNat (0, (ByteArray.empty, (ByteArray.empty, ([], []))))).1, r78, r79, r80] : List Int) (fun r81 => L.a0_J1 r81 ((v19.getD v21.toNat (0, (ByteArray.empty, (ByteArray.empty, ([], []))))).2.2.2.2) ([(v19.getD v21.toNat (0, (ByteArray.empty, (ByteArray.empty, ([], []))))).1, r78, r79, r80] : List Int) (fun h1 m => self h1 (i64 (v21 + 1)))))))) ∧ (L.c7 ((v19.getD v21.toNat (0, (ByteArray.empty, (ByteArray.empty, ([], []))))).2.1) (fun r82 => ((L.c7 ((v19.getD v21.toNat (0, (ByteArray.empty, (ByteArray.empty, ([], []))))).2.2.1) (fun r83 => L.c5 ((v19.getD v21.toNat (0, (ByteArray.empty, (ByteArray.empty, ([], []))))).2.2.2.1) (fun r84 => L.a6 h ([(v19.getD v21.toNat (0, (ByteArray.empty, (ByteArray.empty, ([], []))))).1, r82, r83, r84] : List Int) (fun r85 => L.a0_J1 r85 ((v19.getD v21.toNat (0, (ByteArray.empty, (ByteArray.empty, ([], []))))).2.2.2.2) ([(v19.getD v21.toNat (0, (ByteArray.empty, (ByteArray.empty, ([], []))))).1, r82, r83, r84] : List Int) (fun h1 m => self h1 (i64 (v21 + 1))))))) ∧ L.c7 ((v19.getD v21.toNat (0, (ByteArray.empty, (ByteArray.empty, ([], []))))).2.2.1) (fun r86 => L.c5 ((v19.getD v21.toNat (0, (ByteArray.empty, (ByteArray.empty, ([], []))))).2.2.2.1) (fun r87 => L.a6 h ([(v19.getD v21.toNat (0, (ByteArray.empty, (ByteArray.empty, ([], []))))).1, r82, r86, r87] : List Int) (fun r88 => L.a0_J1 r88 ((v19.getD v21.toNat (0, (ByteArray.empty, (ByteArray.empty, ([], []))))).2.2.2.2) ([(v19.getD v21.toNat (0, (ByteArray.empty, (ByteArray.empty, ([], []))))).1, r82, r86, r87] : List Int) (fun h1 m => self h1 (i64 (v21 + 1))))))) ∧ (L.c7 ((v19.getD v21.toNat (0, (ByteArray.empty, (ByteArray.empty, ([], []))))).2.2.1) (fun r89 => (L.c5 ((v19.getD v21.toNat (0, (ByteArray.empty, (ByteArray.empty, ([], []))))).2.2.2.1) (fun r90 => L.a6 h ([(v19.getD v21.toNat (0, (ByteArray.empty, (ByteArray.empty, ([], []))))).1, r82, r89, r90] : List Int) (fun r91 => L.a0_J1 r91 ((v19.getD v21.toNat (0, (ByteArray.empty, (ByteArray.empty, ([], []))))).2.2.2.2) ([(v19.getD v21.toNat (0, (ByteArray.empty, (ByteArray.empty, ([], []))))).1, r82, r89, r90] : List Int) (fun h1 m => self h1 (i64 (v21 + 1)))))) ∧ (L.c5 ((v19.getD v21.toNat (0, (ByteArray.empty, (ByteArray.empty, ([], []))))).2.2.2.1) (fun r92 => L.a6 h ([(v19.getD v21.toNat (0, (ByteArray.empty, (ByteArray.empty, ([], []))))).1, r82, r89, r92] : List Int) (fun r93 => L.a0_J1 r93 ((v19.getD v21.toNat (0, (ByteArray.empty, (ByteArray.empty, ([], []))))).2.2.2.2) ([(v19.getD v21.toNat (0, (ByteArray.empty, (ByteArray.empty, ([], []))))).1, r82, r89, r92] : List Int) (fun h1 m => self h1 (i64 (v21 + 1)))))) ∧ L.c5 ((v19.getD v21.toNat (0, (ByteArray.empty, (ByteArray.empty, ([], []))))).2.2.2.1) (fun r94 => L.a6 h ([(v19.getD v21.toNat (0, (ByteArray.empty, (ByteArray.empty, ([], []))))).1, r82, r89, r94] : List Int) (fun r95 => L.a0_J1 r95 ((v19.getD v21.toNat (0, (ByteArray.empty, (ByteArray.empty, ([], []))))).2.2.2.2) ([(v19.getD v21.toNat (0, (ByteArray.empty, (ByteArray.empty, ([], []))))).1, r82, r89, r94] : List Int) (fun h1 m => self h1 (i64 (v21 + 1))))))) ∧ (L.c7 ((v19.getD v21.toNat (0, (ByteArray.empty, (ByteArray.empty, ([], []))))).2.2.1) (fun r96 => L.c5 ((v19.getD v21.toNat (0, (ByteArray.empty, (ByteArray.empty, ([], []))))).2.2.2.1) (fun r97 => L.a6 h ([(v19.getD v21.toNat (0, (ByteArray.empty, (ByteArray.empty, ([], []))))).1, r82, r96, r97] : List Int) (fun r98 => L.a0_J1 r98 ((v19.getD v21.toNat (0, (ByteArray.empty, (ByteArray.empty, ([], []))))).2.2.2.2) ([(v19.getD v21.toNat (0, (ByteArray.empty, (ByteArray.empty, ([], []))))).1, r82, r96, r97] : List Int) (fun h1 m => self h1 (i64 (v21 + 1))))))) ∧ L.c7 ((v19.getD v21.toNat (0, (ByteArray.empty, (ByteArray.empty, ([], []))))).2.2.1) (fun r99 => (L.c5 ((v19.getD v21.toNat (0, (ByteArray.empty, (ByteArray.empty, ([], []))))).2.2.2.1) (fun r100 => L.a6 h ([(v19.getD v21.toNat (0, (ByteArray.empty, (ByteArray.empty, ([], []))))).1, r82, r99, r100] : List Int) (fun r101 => L.a0_J1 r101 ((v19.getD v21.toNat (0, (ByteArray.empty, (ByteArray.empty, ([], []))))).2.2.2.2) ([(v19.getD v21.toNat (0, (ByteArray.empty, (ByteArray.empty, ([], []))))).1, r82, r99, r100] : List Int) (fun h1 m => self h1 (i64 (v21 + 1)))))) ∧ L.c5 ((v19.getD v21.toNat (0, (ByteArray.empty, (ByteArray.empty, ([], []))))).2.2.2.1) (fun r102 => L.a6 h ([(v19.getD v21.toNat (0, (ByteArray.empty, (ByteArray.empty, ([], []))))).1, r82, r99, r102] : List Int) (fun r103 => L.a0_J1 r103 ((v19.getD v21.toNat (0, (ByteArray.empty, (ByteArray.empty, ([], []))))).2.2.2.2) ([(v19.getD v21.toNat (0, (ByteArray.empty, (ByteArray.empty, ([], []))))).1, r82, r99, r102] : List Int) (fun h1 m => self h1 (i64 (v21 + 1)))))))) ∧ (L.c7 ((v19.getD v21.toNat (0, (ByteArray.empty, (ByteArray.empty, ([], []))))).2.1) (fun r104 => L.c7 ((v19.getD v21.toNat (0, (ByteArray.empty, (ByteArray.empty, ([], []))))).2.2.1) (fun r105 => L.c5 ((v19.getD v21.toNat (0, (ByteArray.empty, (ByteArray.empty, ([], []))))).2.2.2.1) (fun r106 => L.a6 h ([(v19.getD v21.toNat (0, (ByteArray.empty, (ByteArray.empty, ([], []))))).1, r104, r105, r106] : List Int) (fun r107 => L.a0_J1 r107 ((v19.getD v21.toNat (0, (ByteArray.empty, (ByteArray.empty, ([], []))))).2.2.2.2) ([(v19.getD v21.toNat (0, (ByteArray.empty, (ByteArray.empty, ([], []))))).1, r104, r105, r106] : List Int) (fun h1 m => self h1 (i64 (v21 + 1)))))))) ∧ L.c7 ((v19.getD v21.toNat (0, (ByteArray.empty, (ByteArray.empty, ([], []))))).2.1) (fun r108 => (L.c7 ((v19.getD v21.toNat (0, (ByteArray.empty, (ByteArray.empty, ([], []))))).2.2.1) (fun r109 => L.c5 ((v19.getD v21.toNat (0, (ByteArray.empty, (ByteArray.empty, ([], []))))).2.2.2.1) (fun r110 => L.a6 h ([(v19.getD v21.toNat (0, (ByteArray.empty, (ByteArray.empty, ([], []))))).1, r108, r109, r110] : List Int) (fun r111 => L.a0_J1 r111 ((v19.getD v21.toNat (0, (ByteArray.empty, (ByteArray.empty, ([], []))))).2.2.2.2) ([(v19.getD v21.toNat (0, (ByteArray.empty, (ByteArray.empty, ([], []))))).1, r108, r109, r110] : List Int) (fun h1 m => self h1 (i64 (v21 + 1))))))) ∧ L.c7 ((v19.getD v21.toNat (0, (ByteArray.empty, (ByteArray.empty, ([], []))))).2.2.1) (fun r112 => (L.c5 ((v19.getD v21.toNat (0, (ByteArray.empty, (ByteArray.empty, ([], []))))).2.2.2.1) (fun r113 => L.a6 h ([(v19.getD v21.toNat (0, (ByteArray.empty, (ByteArray.empty, ([], []))))).1, r108, r112, r113] : List Int) (fun r114 => L.a0_J1 r114 ((v19.getD v21.toNat (0, (ByteArray.empty, (ByteArray.empty, ([], []))))).2.2.2.2) ([(v19.getD v21.toNat (0, (ByteArray.empty, (ByteArray.empty, ([], []))))).1, r108, r112, r113] : List Int) (fun h1 m => self h1 (i64 (v21 + 1)))))) ∧ L.c5 ((v19.getD v21.toNat (0, (ByteArray.empty, (ByteArray.empty, ([], []))))).2.2.2.1) (fun r115 => L.a6 h ([(v19.getD v21.toNat (0, (ByteArray.empty, (ByteArray.empty, ([], []))))).1, r108, r112, r115] : List Int) (fun r116 => L.a0_J1 r116 ((v19.getD v21.toNat (0, (ByteArray.empty, (ByteArray.empty, ([], []))))).2.2.2.2) ([(v19.getD v21.toNat (0, (ByteArray.empty, (ByteArray.empty, ([], []))))).1, r108, r112, r115] : List Int) (fun h1 m => self h1 (i64 (v21 + 1)))))))) ∧ ((L.c7 ((v19.getD v21.toNat (0, (ByteArray.empty, (ByteArray.empty, ([], []))))).2.1) (fun r117 => L.c7 ((v19.getD v21.toNat (0, (ByteArray.empty, (ByteArray.empty, ([], []))))).2.2.1) (fun r118 => L.c5 ((v19.getD v21.toNat (0, (ByteArray.empty, (ByteArray.empty, ([], []))))).2.2.2.1) (fun r119 => L.a6 h ([(v19.getD v21.toNat (0, (ByteArray.empty, (ByteArray.empty, ([], []))))).1, r117, r118, r119] : List Int) (fun r120 => L.a0_J1 r120 ((v19.getD v21.toNat (0, (ByteArray.empty, (ByteArray.empty, ([], []))))).2.2.2.2) ([(v19.getD v21.toNat (0, (ByteArray.empty, (ByteArray.empty, ([], []))))).1, r117, r118, r119] : List Int) (fun h1 m => self h1 (i64 (v21 + 1)))))))) ∧ L.c7 ((v19.getD v21.toNat (0, (ByteArray.empty, (ByteArray.empty, ([], []))))).2.1) (fun r121 => L.c7 ((v19.getD v21.toNat (0, (ByteArray.empty, (ByteArray.empty, ([], []))))).2.2.1) (fun r122 => L.c5 ((v19.getD v21.toNat (0, (ByteArray.empty, (ByteArray.empty, ([], []))))).2.2.2.1) (fun r123 => L.a6 h ([(v19.getD v21.toNat (0, (ByteArray.empty, (ByteArray.empty, ([], []))))).1, r121, r122, r123] : List Int) (fun r124 => L.a0_J1 r124 ((v19.getD v21.toNat (0, (ByteArray.empty, (ByteArray.empty, ([], []))))).2.2.2.2) ([(v19.getD v21.toNat (0, (ByteArray.empty, (ByteArray.empty, ([], []))))).1, r121, r122, r123] : List Int) (fun h1 m => self h1 (i64 (v21 + 1)))))))) ∧ (L.c7 ((v19.getD v21.toNat (0, (ByteArray.empty, (ByteArray.empty, ([], []))))).2.1) (fun r125 => (L.c7 ((v19.getD v21.toNat (0, (ByteArray.empty, (ByteArray.empty, ([], []))))).2.2.1) (fun r126 => L.c5 ((v19.getD v21.toNat (0, (ByteArray.empty, (ByteArray.empty, ([], []))))).2.2.2.1) (fun r127 => L.a6 h ([(v19.getD v21.toNat (0, (ByteArray.empty, (ByteArray.empty, ([], []))))).1, r125, r126, r127] : List Int) (fun r128 => L.a0_J1 r128 ((v19.getD v21.toNat (0, (ByteArray.empty, (ByteArray.empty, ([], []))))).2.2.2.2) ([(v19.getD v21.toNat (0, (ByteArray.empty, (ByteArray.empty, ([], []))))).1, r125, r126, r127] : List Int) (fun h1 m => self h1 (i64 (v21 + 1))))))) ∧ (L.c7 ((v19.getD v21.toNat (0, (ByteArray.empty, (ByteArray.empty, ([], []))))).2.2.1) (fun r129 => L.c5 ((v19.getD v21.toNat (0, (ByteArray.empty, (ByteArray.empty, ([], []))))).2.2.2.1) (fun r130 => L.a6 h ([(v19.getD v21.toNat (0, (ByteArray.empty, (ByteArray.empty, ([], []))))).1, r125, r129, r130] : List Int) (fun r131 => L.a0_J1 r131 ((v19.getD v21.toNat (0, (ByteArray.empty, (ByteArray.empty, ([], []))))).2.2.2.2) ([(v19.getD v21.toNat (0, (ByteArray.empty, (ByteArray.empty, ([], []))))).1, r125, r129, r130] : List Int) (fun h1 m => self h1 (i64 (v21 + 1))))))) ∧ L.c7 ((v19.getD v21.toNat (0, (ByteArray.empty, (ByteArray.empty, ([], []))))).2.2.1) (fun r132 => (L.c5 ((v19.getD v21.toNat (0, (ByteArray.empty, (ByteArray.empty, ([], []))))).2.2.2.1) (fun r133 => L.a6 h ([(v19.getD v21.toNat (0, (ByteArray.empty, (ByteArray.empty, ([], []))))).1, r125, r132, r133] : List Int) (fun r134 => L.a0_J1 r134 ((v19.getD v21.toNat (0, (ByteArray.empty, (ByteArray.empty, ([], []))))).2.2.2.2) ([(v19.getD v21.toNat (0, (ByteArray.empty, (ByteArray.empty, ([], []))))).1, r125, r132, r133] : List Int) (fun h1 m => self h1 (i64 (v21 + 1)))))) ∧ L.c5 ((v19.getD v21.toNat (0, (ByteArray.empty, (ByteArray.empty, ([], []))))).2.2.2.1) (fun r135 => L.a6 h ([(v19.getD v21.toNat (0, (ByteArray.empty, (ByteArray.empty, ([], []))))).1, r125, r132, r135] : List Int) (fun r136 => L.a0_J1 r136 ((v19.getD v21.toNat (0, (ByteArray.empty, (ByteArray.empty, ([], []))))).2.2.2.2) ([(v19.getD v21.toNat (0, (ByteArray.empty, (ByteArray.empty, ([], []))))).1, r125, r132, r135] : List Int) (fun h1 m => self h1 (i64 (v21 + 1)))))))) ∧ (L.c7 ((v19.getD v21.toNat (0, (ByteArray.empty, (ByteArray.empty, ([], []))))).2.1) (fun r137 => L.c7 ((v19.getD v21.toNat (0, (ByteArray.empty, (ByteArray.empty, ([], []))))).2.2.1) (fun r138 => L.c5 ((v19.getD v21.toNat (0, (ByteArray.empty, (ByteArray.empty, ([], []))))).2.2.2.1) (fun r139 => L.a6 h ([(v19.getD v21.toNat (0, (ByteArray.empty, (ByteArray.empty, ([], []))))).1, r137, r138, r139] : List Int) (fun r140 => L.a0_J1 r140 ((v19.getD v21.toNat (0, (ByteArray.empty, (ByteArray.empty, ([], []))))).2.2.2.2) ([(v19.getD v21.toNat (0, (ByteArray.empty, (ByteArray.empty, ([], []))))).1, r137, r138, r139] : List Int) (fun h1 m => self h1 (i64 (v21 + 1)))))))) ∧ L.c7 ((v19.getD v21.toNat (0, (ByteArray.empty, (ByteArray.empty, ([], []))))).2.1) (fun r141 => (L.c7 ((v19.getD v21.toNat (0, (ByteArray.empty, (ByteArray.empty, ([], []))))).2.2.1) (fun r142 => L.c5 ((v19.getD v21.toNat (0, (ByteArray.empty, (ByteArray.empty, ([], []))))).2.2.2.1) (fun r143 => L.a6 h ([(v19.getD v21.toNat (0, (ByteArray.empty, (ByteArray.empty, ([], []))))).1, r141, r142, r143] : List Int) (fun r144 => L.a0_J1 r144 ((v19.getD v21.toNat (0, (ByteArray.empty, (ByteArray.empty, ([], []))))).2.2.2.2) ([(v19.getD v21.toNat (0, (ByteArray.empty, (ByteArray.empty, ([], []))))).1, r141, r142, r143] : List Int) (fun h1 m => self h1 (i64 (v21 + 1))))))) ∧ L.c7 ((v19.getD v21.toNat (0, (ByteArray.empty, (ByteArray.empty, ([], []))))).2.2.1) (fun r145 => (L.c5 ((v19.getD v21.toNat (0, (ByteArray.empty, (ByteArray.empty, ([], []))))).2.2.2.1) (fun r146 => L.a6 h ([(v19.getD v21.toNat (0, (ByteArray.empty, (ByteArray.empty, ([], []))))).1, r141, r145, r146] : List Int) (fun r147 => L.a0_J1 r147 ((v19.getD v21.toNat (0, (ByteArray.empty, (ByteArray.empty, ([], []))))).2.2.2.2) ([(v19.getD v21.toNat (0, (ByteArray.empty, (ByteArray.empty, ([], []))))).1, r141, r145, r146] : List Int) (fun h1 m => self h1 (i64 (v21 + 1)))))) ∧ L.c5 ((v19.getD v21.toNat (0, (ByteArray.empty, (ByteArray.empty, ([], []))))).2.2.2.1) (fun r148 => L.a6 h ([(v19.getD v21.toNat (0, (ByteArray.empty, (ByteArray.empty, ([], []))))).1, r141, r145, r148] : List Int) (fun r149 => L.a0_J1 r149 ((v19.getD v21.toNat (0, (ByteArray.empty, (ByteArray.empty, ([], []))))).2.2.2.2) ([(v19.getD v21.toNat (0, (ByteArray.empty, (ByteArray.empty, ([], []))))).1, r141, r145, r148] : List Int) (fun h1 m => self h1 (i64 (v21 + 1))))))) else Kx0 h)
def L.a0_L2_R (v19 : L.T2) (v20 : Int) : Nat → Int → Int → (Int → Prop) → Prop
  | 0, _, _, _ => False
  | fu + 1, h, v21, Kx0 => L.a0_L2_b v19 v20 h v21 (fun h v21 => L.a0_L2_R v19 v20 fu h v21 Kx0) Kx0
structure L.a0_L2 (v19 : L.T2) (v20 : Int) (h : Int) (v21 : Int) (Kx0 : Int → Prop) : Prop where
  out : ∃ fu, L.a0_L2_R v19 v20 fu h v21 Kx0
def L.a0_L2_d : LoopD := { base := 3, vecs := [], flds := [], keep := [3, 5, 6, 7, 19, 20, 21], out := [3, 7], rets := [2, 3], rv := [], rbase := 0 }
def L.a0_L2_ss : List Sh := [.cl 1 0, .fn 31 [] [], .fn 33 [] [], .int .i64, .ro L.T1, .int .i64, .int .i64]
def L.a0_L2_os : List OSh := [.cells [.ro L.T1], .cells [.int .i64, .int .i64], .cells [.int .i64, .int .i64]]
def L.a0_L2_G (vs : List V) (st : List Ob) (K : Ex → St) : Prop := L.a0_L2 (gR L.T1 (gA vs 4)) (gI (gA vs 5)) (gI (gA vs 3)) (gI (gA vs 6)) (fun q0_ => K (.exit 0) (bld [3, 7] [.cl 1 0, .xi q0_] 0 67) [.cells [.ro L.T1 (gR L.T1 ((oC (gD st 0)).getD 0 .any))], .cells [.xi (cI st 1 0), .xi (cI st 1 1)], .cells [.xi (cI st 2 0), .xi (cI st 2 1)]])
def L.a0_L2_F (vs : List V) (st : List Ob) (K : Ex → St) : Prop := fitF L.a0_L2_ss L.a0_L2_os vs st (L.a0_L2_G vs st K)
theorem L.a0_L2_eq (v19 : L.T2) (v20 : Int) (m0 : L.T2) (m1 : Int) (m11 : Int) (m2 : Int) (m21 : Int) (K : Ex → St) : ∀ (fu : Nat) (h : Int) (v21 : Int), L.a0_L2_R v19 v20 fu h v21 (fun q0_ => K (.exit 0) (bld [3, 7] [.cl 1 0, .xi q0_] 0 67) [.cells [.ro L.T1 m0], .cells [.xi m1, .xi m11], .cells [.xi m2, .xi m21]]) = iterL (stepL (exec L.pg (CC L.pg L.Γ_a0 L.Δ_a0) (drawD L.pg L.Γ_a0 L.Δ_a0) (.node .leaf (.node .leaf (.node (.node .leaf (.cut .leaf L.a0_J1_d 67 L.a0_J1_F)) .leaf))) (sub [true, true, true, true, true, false, true, false, false] (codeOf Tryd.f12))) 3 L.a0_L2_d K) fu (bld L.a0_L2_d.keep [.cl 1 0, .fn (.func 31) [] [], .fn (.func 33) [] [], .xi h, .ro L.T1 v19, .xi v20, .xi v21] 0 67) [.cells [.ro L.T1 m0], .cells [.xi m1, .xi m11], .cells [.xi m2, .xi m21]] := by
  intro fu
  induction fu with
  | zero => intros; rfl
  | succ fu ih =>
    intro h v21
    have e : (fun h v21 => L.a0_L2_R v19 v20 fu h v21 (fun q0_ => K (.exit 0) (bld [3, 7] [.cl 1 0, .xi q0_] 0 67) [.cells [.ro L.T1 m0], .cells [.xi m1, .xi m11], .cells [.xi m2, .xi m21]])) = fun h v21 => iterL (stepL (exec L.pg (CC L.pg L.Γ_a0 L.Δ_a0) (drawD L.pg L.Γ_a0 L.Δ_a0) (.node .leaf (.node .leaf (.node (.node .leaf (.cut .leaf L.a0_J1_d 67 L.a0_J1_F)) .leaf))) (sub [true, true, true, true, true, false, true, false, false] (codeOf Tryd.f12))) 3 L.a0_L2_d K) fu (bld L.a0_L2_d.keep [.cl 1 0, .fn (.func 31) [] [], .fn (.func 33) [] [], .xi h, .ro L.T1 v19, .xi v20, .xi v21] 0 67) [.cells [.ro L.T1 m0], .cells [.xi m1, .xi m11], .cells [.xi m2, .xi m21]] := by
      funext h v21; exact ih h v21
    show L.a0_L2_b v19 v20 h v21 (fun h v21 => L.a0_L2_R v19 v20 fu h v21 (fun q0_ => K (.exit 0) (bld [3, 7] [.cl 1 0, .xi q0_] 0 67) [.cells [.ro L.T1 m0], .cells [.xi m1, .xi m11], .cells [.xi m2, .xi m21]])) (fun q0_ => K (.exit 0) (bld [3, 7] [.cl 1 0, .xi q0_] 0 67) [.cells [.ro L.T1 m0], .cells [.xi m1, .xi m11], .cells [.xi m2, .xi m21]]) = _
    rw [e]
    kernel_rfl
theorem L.a0_L2_imp (vs : List V) (st : List Ob) (K : Ex → St) (h : L.a0_L2_G vs st K) : ∃ fu, iterL (stepL (exec L.pg (CC L.pg L.Γ_a0 L.Δ_a0) (drawD L.pg L.Γ_a0 L.Δ_a0) (.node .leaf (.node .leaf (.node (.node .leaf (.cut .leaf L.a0_J1_d 67 L.a0_J1_F)) .leaf))) (sub [true, true, true, true, true, false, true, false, false] (codeOf Tryd.f12))) 3 L.a0_L2_d K) fu (bld L.a0_L2_d.keep (mkL L.a0_L2_ss 0 vs) 0 67) (mkOs L.a0_L2_os 0 st) :=
  exMap (fun fu h => @Eq.mp _ _ (Eq.trans (L.a0_L2_eq (gR L.T1 (gA vs 4)) (gI (gA vs 5)) (gR L.T1 ((oC (gD st 0)).getD 0 .any)) (cI st 1 0) (cI st 1 1) (cI st 2 0) (cI st 2 1) K fu (gI (gA vs 3)) (gI (gA vs 6))) (by kernel_rfl)) h) (L.a0_L2.out h)
theorem L.a0_L2_ok : AnnOk L.pg (CC L.pg L.Γ_a0 L.Δ_a0) (drawD L.pg L.Γ_a0 L.Δ_a0) 0 (.lift L.a0_L2_d 67 L.a0_L2_F) (.loop (sub [true, true, true, true, true, false, true, false, false] (codeOf Tryd.f12))) :=
  lift_ok (an := (.node .leaf (.node .leaf (.node (.node .leaf (.cut .leaf L.a0_J1_d 67 L.a0_J1_F)) .leaf)))) (ss := L.a0_L2_ss) (os := L.a0_L2_os) (G := L.a0_L2_G) rfl (Nat.le_of_ble_eq_true rfl) ⟨(annOk_leaf _), ⟨(annOk_leaf _), ⟨⟨(annOk_leaf _), (cut_ok (ay := (.node .leaf (.lift L.a0_L1_d 67 L.a0_L1_F))) (ss := L.a0_J1_ss) (os := L.a0_J1_os) (G := L.a0_J1_G) rfl (annOk_leaf _) (Nat.le_of_ble_eq_true rfl) (Nat.le_of_ble_eq_true rfl) ⟨(annOk_leaf _), L.a0_L1_ok⟩ L.a0_J1_ok)⟩, (annOk_leaf _)⟩⟩⟩ (L.a0_L2_imp)
def L.a0_B (p_Changes : L.T2) (K : Int → Int → Int → Prop) : Prop :=
  L.b4 p_Changes (fun rCode rIndex => (bif (!((rCode == 0) && ((rIndex == 0) && true))) then K 0 rCode rIndex else L.a0_L2 p_Changes (p_Changes.length : Int) 3 0 (fun h => K h 0 0)))
structure L.a0 (p_Changes : L.T2) (K : Int → Int → Int → Prop) : Prop where
  out : L.a0_B p_Changes K
def L.a0_ss : List Sh := [.agg [.ro L.T1]]
def L.a0_G (vs : List V) (K : V → List Ob → Prop) : Prop := L.a0 (gR L.T1 ((gC (gA vs 0)).getD 0 .any)) (fun r0 r1 r2 => K (.tup [.xi r0, .agg [.xi r1, .xi r2]]) [])
def L.a0_S : SemF := fun args K => argF L.a0_ss args fun a => L.a0_G a K
theorem L.a0_eq (p_Changes : L.T2) (K : V → List Ob → Prop) : run L.pg L.Γ_a0 L.Δ_a0 (.node .leaf (.node .leaf (.node .leaf (.node .leaf (.node .leaf (.node (.node .leaf (.lift L.a0_L2_d 67 L.a0_L2_F)) .leaf)))))) .any Tryd.f12 [.agg [.ro L.T1 p_Changes]] K = L.a0_B p_Changes (fun r0 r1 r2 => K (.tup [.xi r0, .agg [.xi r1, .xi r2]]) []) := by
  kernel_rfl
theorem L.a0_imp (vs : List V) (K : V → List Ob → Prop) : Imp (L.a0_G vs K) (run L.pg L.Γ_a0 L.Δ_a0 (.node .leaf (.node .leaf (.node .leaf (.node .leaf (.node .leaf (.node (.node .leaf (.lift L.a0_L2_d 67 L.a0_L2_F)) .leaf)))))) .any Tryd.f12 (mkL L.a0_ss 0 vs) K) :=
  Imp.of (Eq.trans (b := run L.pg L.Γ_a0 L.Δ_a0 (.node .leaf (.node .leaf (.node .leaf (.node .leaf (.node .leaf (.node (.node .leaf (.lift L.a0_L2_d 67 L.a0_L2_F)) .leaf)))))) .any Tryd.f12 [.agg [.ro L.T1 (gR L.T1 ((gC (gA vs 0)).getD 0 .any))]] K) (by kernel_rfl) (L.a0_eq (gR L.T1 ((gC (gA vs 0)).getD 0 .any)) K)) fun h => (L.a0.out h)
theorem L.a0_ok : SoundFn L.pg 12 L.a0_S :=
  fn_ok (sem := run L.pg L.Γ_a0 L.Δ_a0 (.node .leaf (.node .leaf (.node .leaf (.node .leaf (.node .leaf (.node (.node .leaf (.lift L.a0_L2_d 67 L.a0_L2_F)) .leaf)))))) .any Tryd.f12) (ss := L.a0_ss) (G := L.a0_G) (run_ok L.Γ_a0_ok L.Δ_a0_ok Tryd.func12 (ann := (.node .leaf (.node .leaf (.node .leaf (.node .leaf (.node .leaf (.node (.node .leaf (.lift L.a0_L2_d 67 L.a0_L2_F)) .leaf))))))) ⟨(annOk_leaf _), ⟨(annOk_leaf _), ⟨(annOk_leaf _), ⟨(annOk_leaf _), ⟨(annOk_leaf _), ⟨⟨(annOk_leaf _), L.a0_L2_ok⟩, (annOk_leaf _)⟩⟩⟩⟩⟩⟩) L.a0_imp
def L.Γ_e9 : Ctx := ctxC L.Γ_a0 12 L.a0_S
theorem L.Γ_e9_ok : SoundG L.pg L.Γ_e9 := ctxC_ok L.Γ_a0_ok L.a0_ok
def L.Δ_e9 : CtxO := L.Δ_a0
theorem L.Δ_e9_ok : SoundGO L.pg L.Δ_e9 := L.Δ_a0_ok
def L.e9_B (a_Files : L.T9) (b_Files : L.T9) (K : Bool → Prop) : Prop :=
  L.a2 a_Files b_Files (fun r r1 r2 => (bif (r != 0) then L.d8 (fun r3 => K r3) else L.b0 r2 a_Files (fun r4 r5 r6 => L.a2 a_Files r4 (fun r7 r8 r9 => L.a0 r2 (fun r10 rCode rIndex => L.a0 r9 (fun r11 rCode1 rIndex1 => (bif (bif (bif (bif (r5 != 0) then true else (r7 != 0)) then true else (rCode != 0)) then true else (rCode1 != 0)) then K false else (bif (r10 == r11) then L.b9 a_Files b_Files (fun r12 => (bif (bif true then (bif (!r12) then true else (r10 == 3)) else false) then L.d8 (fun r13 => K (bif true then r13 else false)) else K false)) else K false))))))))
structure L.e9 (a_Files : L.T9) (b_Files : L.T9) (K : Bool → Prop) : Prop where
  out : L.e9_B a_Files b_Files K
def L.e9_ss : List Sh := [.agg [.ro L.ya], .agg [.ro L.ya]]
def L.e9_G (vs : List V) (K : V → List Ob → Prop) : Prop := L.e9 (gR L.ya ((gC (gA vs 0)).getD 0 .any)) (gR L.ya ((gC (gA vs 1)).getD 0 .any)) (fun r0 => K (.x (.bool r0)) [])
def L.e9_S : SemF := fun args K => argF L.e9_ss args fun a => L.e9_G a K
theorem L.e9_eq (a_Files : L.T9) (b_Files : L.T9) (K : V → List Ob → Prop) : run L.pg L.Γ_e9 L.Δ_e9 .leaf .any Tryd.f4 [.agg [.ro L.ya a_Files], .agg [.ro L.ya b_Files]] K = L.e9_B a_Files b_Files (fun r0 => K (.x (.bool r0)) []) := by
  kernel_rfl
theorem L.e9_imp (vs : List V) (K : V → List Ob → Prop) : Imp (L.e9_G vs K) (run L.pg L.Γ_e9 L.Δ_e9 .leaf .any Tryd.f4 (mkL L.e9_ss 0 vs) K) :=
  Imp.of (Eq.trans (b := run L.pg L.Γ_e9 L.Δ_e9 .leaf .any Tryd.f4 [.agg [.ro L.ya (gR L.ya ((gC (gA vs 0)).getD 0 .any))], .agg [.ro L.ya (gR L.ya ((gC (gA vs 1)).getD 0 .any))]] K) (by kernel_rfl) (L.e9_eq (gR L.ya ((gC (gA vs 0)).getD 0 .any)) (gR L.ya ((gC (gA vs 1)).getD 0 .any)) K)) fun h => (L.e9.out h)
theorem L.e9_ok : SoundFn L.pg 4 L.e9_S :=
  fn_ok (sem := run L.pg L.Γ_e9 L.Δ_e9 .leaf .any Tryd.f4) (ss := L.e9_ss) (G := L.e9_G) (run_ok L.Γ_e9_ok L.Δ_e9_ok Tryd.func4 (ann := .leaf) (annOk_leaf _)) L.e9_imp
end Go.Proofs.YtkpplfghhciacaaDoor
set_option linter.unusedVariables false
namespace Go.Proofs.YtkpplfghhciacaaDoor
open Eng
namespace Bb
theorem drop_cons {α : Type} {l : List α} {i : Nat} (d : α) (h : i < l.length) : l.drop i = l.getD i d :: l.drop (i + 1) := by
  rw [List.drop_eq_getElem_cons h, List.getD_eq_getElem?_getD, List.getElem?_eq_getElem h]; rfl
theorem getD_mem {α : Type} {l : List α} {i : Nat} (d : α) (h : i < l.length) : l.getD i d ∈ l := by
  rw [List.getD_eq_getElem?_getD, List.getElem?_eq_getElem h]; exact List.getElem_mem h
def big (n : Nat) : Prop := n ≤ 9223372036854775807
theorem big_of {n : Nat} (h : n ≤ maxLen) : big n := by unfold maxLen at h; unfold big; omega
end Bb
end Go.Proofs.YtkpplfghhciacaaDoor
set_option linter.unusedVariables false
namespace Go.Proofs.YtkpplfghhciacaaDoor
open Eng
namespace Bb
theorem fits_of {n : Nat} (h : n ≤ 1000) : fits n := by unfold fits; omega
theorem fault0 {a b : Int} (h : (a, b) = ((0, 0) : Int × Int)) : (!((a == 0) && ((b == 0) && true))) = false := by
  cases h; rfl
theorem fault1 {a b : Int} (h : (a, b) ≠ ((0, 0) : Int × Int)) : (!((a == 0) && ((b == 0) && true))) = true := by
  by_cases ha : a = 0
  · by_cases hb : b = 0
    · subst ha; subst hb; exact absurd rfl h
    · simp [ha, hb]
  · simp [ha]
end Bb
end Go.Proofs.YtkpplfghhciacaaDoor
set_option linter.unusedVariables false
set_option linter.unusedSimpArgs false
namespace Go.Proofs.YtkpplfghhciacaaDoor
open Eng Bb
namespace Tp
abbrev Txt := List ByteArray
abbrev File := ByteArray × List ByteArray
abbrev Tree := List File
abbrev Hunk := Int × (List ByteArray × List ByteArray)
abbrev Chg := Int × (ByteArray × (ByteArray × (List ByteArray × List Hunk)))
abbrev Patch := List Chg
abbrev noFile : File := (ByteArray.empty, [])
abbrev noChg : Chg := (0, (ByteArray.empty, (ByteArray.empty, ([], []))))
def sec (f : Int × Int) (i : Int) : Int × Int := if f = (0, 0) then (0, 0) else (f.1, i)
def linL : Nat → Txt → Int × Int
  | _, [] => (0, 0)
  | i, s :: r => if 80 < s.size then (2, i) else if 0 ≤ La.idx_R s 10 then (5, i) else linL (i + 1) r
def lin (l : Txt) : Int × Int := if 120 < l.length then (2, -1) else linL 0 l
theorem lin_loop {l : Txt} (hl : l.length ≤ 120) {K : Int → Int → Prop} : ∀ (fu i : Nat), i ≤ l.length → l.length - i < fu → K (linL i (l.drop i)).1 (linL i (l.drop i)).2 → L.b2_L1_R l (l.length : Int) fu i (K 0 0) K
  | 0, i, _, h, _ => by omega
  | fu + 1, i, hi, h, hK => by
    show L.b2_L1_b l _ i _ _ _
    unfold L.b2_L1_b
    rcases Nat.lt_or_ge i l.length with g | g
    · rw [drop_cons ByteArray.empty g, linL] at hK
      refine cond_t (by simp; omega) ⟨inB_of (by omega) (by omega), ?_⟩
      simp only [Int.toNat_natCast]
      by_cases c1 : 80 < (l.getD i ByteArray.empty).size
      · rw [if_pos c1] at hK; exact cond_t (decide_eq_true (by omega)) hK
      · rw [if_neg c1] at hK
        refine cond_f (decide_eq_false (by omega)) ⟨?_⟩
        show (bif decide (La.idx_R (l.getD i ByteArray.empty) 10 ≥ 0) then K 5 i else _)
        by_cases c2 : 0 ≤ La.idx_R (l.getD i ByteArray.empty) 10
        · rw [if_pos c2] at hK; exact cond_t (decide_eq_true c2) hK
        · rw [if_neg c2] at hK
          refine cond_f (decide_eq_false c2) ?_
          rw [i64_id (by omega) (by omega)]
          exact lin_loop hl fu (i + 1) (by omega) (by omega) hK
    · rw [List.drop_eq_nil_of_le g] at hK
      exact cond_f (by simp; omega) hK
theorem lin_ok {l : Txt} {K : Int → Int → Prop} (hK : K (lin l).1 (lin l).2) : L.b2 l K := by
  constructor
  unfold L.b2_B
  unfold lin at hK
  by_cases c : 120 < l.length
  · rw [if_pos c] at hK; exact cond_t (by simp; omega) hK
  · rw [if_neg c] at hK
    exact cond_f (by simp; omega) ⟨⟨l.length + 1, lin_loop (by omega) _ 0 (by omega) (by omega) hK⟩⟩
theorem sec_ok {f : Int × Int} {i : Int} {K : Int → Int → Prop} (hK : K (sec f i).1 (sec f i).2) : (bif (!((f.1 == 0) && ((f.2 == 0) && true))) then K f.1 i else K 0 0) := by
  unfold sec at hK
  by_cases c : f = (0, 0)
  · rw [if_pos c] at hK; exact cond_f (fault0 (by rw [← c])) hK
  · rw [if_neg c] at hK; exact cond_t (fault1 (by exact c)) hK
theorem linS_ok {l : Txt} {i : Int} {K : Int → Int → Prop} (hK : K (sec (lin l) i).1 (sec (lin l) i).2) : L.d9 l i K := ⟨lin_ok (sec_ok hK)⟩
def hp (a p : ByteArray) : Bool := decide (p.size ≤ a.size) && ((a.extract 0 p.size).toList == p.toList)
theorem hp_ok {a p : ByteArray} {K : Bool → Prop} (hK : K (hp a p)) : L.e1 a p K := by
  refine ⟨⟨fun h => ⟨by omega, ?_⟩, ?_⟩⟩
  · simp at h; omega
  · unfold hp at hK
    by_cases c : p.size ≤ a.size
    · rw [decide_eq_true c, Bool.true_and] at hK
      rw [decide_eq_true (by omega), cond_true, Int.toNat_natCast]; exact hK
    · rw [decide_eq_false c, Bool.false_and] at hK
      rw [decide_eq_false (by omega), cond_false]; exact hK
def rel (a b : ByteArray) : Bool := (a.toList == b.toList) || (hp a (b ++ L.str2) || hp b (a ++ L.str2))
theorem size_ok {a : ByteArray} (h : a.size ≤ 60) : ((a.size + L.str2.size : Nat) : Int) ≤ IntKind.i64.max := by
  have : L.str2.size = 1 := rfl
  rw [this]
  have : IntKind.i64.max = 9223372036854775807 := by decide
  omega
theorem rel_ok {a b : ByteArray} (ha : a.size ≤ 60) (hb : b.size ≤ 60) {K : Bool → Prop} (hK : K (rel a b)) : L.e2 a b K := by
  refine ⟨⟨fun _ => size_ok hb, ?_⟩⟩
  unfold rel at hK
  cases c1 : (a.toList == b.toList) with
  | true => rw [c1, Bool.true_or] at hK; exact ⟨fun _ => size_ok ha, hK⟩
  | false =>
    rw [c1, Bool.false_or] at hK
    refine hp_ok ⟨fun _ => size_ok ha, ?_⟩
    simp only [cond_false]
    cases c2 : hp a (b ++ L.str2) with
    | true => rw [c2, Bool.true_or] at hK; exact hK
    | false => rw [c2, Bool.false_or] at hK; exact hp_ok hK
def Inv (t : Tree) : Prop := t.length ≤ 24 ∧ ∀ f, f ∈ t → f.1.size ≤ 60 ∧ f.2.length ≤ 120
def Pth (t : Tree) : Prop := ∀ f, f ∈ t → f.1.size ≤ 60
def clashL (path : ByteArray) (ex : Int) : Nat → Tree → Bool
  | _, [] => false
  | i, f :: r => if (i : Int) != ex && rel f.1 path then true else clashL path ex (i + 1) r
def clash (t : Tree) (path : ByteArray) (ex : Int) : Bool := clashL path ex 0 t
theorem clash_loop {t : Tree} {path : ByteArray} {ex : Int} (hl : t.length ≤ 24) (hp : Pth t) (hq : path.size ≤ 60) {K : Bool → Prop} : ∀ (fu i : Nat), i ≤ t.length → t.length - i < fu → K (clashL path ex i (t.drop i)) → L.a5_L1_R path ex t (t.length : Int) fu i (K false) K
  | 0, i, _, h, _ => by omega
  | fu + 1, i, hi, h, hK => by
    show L.a5_L1_b path ex t _ i _ _ _
    unfold L.a5_L1_b
    rcases Nat.lt_or_ge i t.length with g | g
    · rw [drop_cons noFile g, clashL] at hK
      refine cond_t (by simp; omega) ⟨inB_of (by omega) (by omega), ?_⟩
      simp only [Int.toNat_natCast]
      have next : K (clashL path ex (i + 1) (t.drop (i + 1))) → L.a5_L1_R path ex t (t.length : Int) fu (i64 ((i : Int) + 1)) (K false) K := fun hK => by
        rw [i64_id (by omega) (by omega)]
        exact clash_loop hl hp hq fu (i + 1) (by omega) (by omega) hK
      cases c1 : ((i : Int) != ex) with
      | false =>
        rw [c1, Bool.false_and] at hK
        exact cond_f rfl ⟨cond_f rfl (next hK)⟩
      | true =>
        refine cond_t rfl (rel_ok (hp _ (getD_mem noFile g)) hq ⟨?_⟩)
        rw [c1, Bool.true_and] at hK
        show (bif rel _ _ then K true else _)
        cases c2 : rel (t.getD i noFile).1 path with
        | true => rw [c2] at hK; exact cond_t rfl hK
        | false => rw [c2] at hK; exact cond_f rfl (next hK)
    · rw [List.drop_eq_nil_of_le g] at hK
      exact cond_f (by simp; omega) hK
theorem clash_ok {t : Tree} {path : ByteArray} {ex : Int} (hl : t.length ≤ 24) (hp : Pth t) (hq : path.size ≤ 60) {K : Bool → Prop} (hK : K (clash t path ex)) : L.a5 t path ex K :=
  ⟨⟨⟨t.length + 1, clash_loop hl hp hq _ 0 (by omega) (by omega) hK⟩⟩⟩
def le (a b : ByteArray) : Bool := Op.bytesLess a.toList b.toList || (a.toList == b.toList)
def valL (t : Tree) : Nat → Tree → Int × Int
  | _, [] => (0, 0)
  | i, f :: r => if La.vp_R f.1 = false then (12, i) else if (decide (0 < i) && le f.1 (t.getD (i - 1) noFile).1) = true then (5, i) else if clash (t.take i) f.1 (-1) = true then (7, i)
    else if sec (lin f.2) i = (0, 0) then valL t (i + 1) r else sec (lin f.2) i
def val (t : Tree) : Int × Int := if 24 < t.length then (2, -1) else valL t 0 t
theorem vp_size {s : ByteArray} (h : La.vp_R s = true) : s.size ≤ 60 := by
  unfold La.vp_R at h
  simp only [Bool.and_eq_true, decide_eq_true_eq] at h
  exact h.1
theorem val_loop {t : Tree} (hl : t.length ≤ 24) {K : Int → Int → Prop} : ∀ (fu i : Nat), i ≤ t.length → t.length - i < fu → Pth (t.take i) → K (valL t i (t.drop i)).1 (valL t i (t.drop i)).2 → L.b6_L1_R t (t.length : Int) t fu i (K 0 0) K
  | 0, i, _, h, _, _ => by omega
  | fu + 1, i, hi, h, hp, hK => by
    show L.b6_L1_b t _ t i _ _ _
    unfold L.b6_L1_b
    rcases Nat.lt_or_ge i t.length with g | g
    · rw [drop_cons noFile g, valL] at hK
      refine cond_t (by simp; omega) ⟨inB_of (by omega) (by omega), ⟨?_⟩⟩
      simp only [Int.toNat_natCast]
      show (bif (!La.vp_R _) then _ else _)
      cases c1 : La.vp_R (t.getD i noFile).1 with
      | false => rw [if_pos c1] at hK; exact cond_t rfl hK
      | true =>
        rw [if_neg (by rw [c1]; decide)] at hK
        have e1 : (decide ((i : Int) > 0)) = decide (0 < i) := by simp
        refine cond_f rfl ⟨fun h0 => ?_, ?_⟩
        · simp at h0
          rw [i64_id (by omega) (by omega)]
          exact inB_of (by omega) (by omega)
        · rw [e1]
          have c2' : (bif decide (0 < i) then (Op.bytesLess (t.getD i noFile).1.toList (t.getD (i64 ((i : Int) - 1)).toNat noFile).1.toList || ((t.getD i noFile).1.toList == (t.getD (i64 ((i : Int) - 1)).toNat noFile).1.toList)) else false) = (decide (0 < i) && le (t.getD i noFile).1 (t.getD (i - 1) noFile).1) := by
            by_cases h0 : 0 < i
            · have e2 : (i64 ((i : Int) - 1)).toNat = i - 1 := by rw [i64_id (by omega) (by omega)]; omega
              rw [decide_eq_true h0, e2]; rfl
            · rw [decide_eq_false h0]; rfl
          rw [c2']
          cases c2 : (decide (0 < i) && le (t.getD i noFile).1 (t.getD (i - 1) noFile).1) with
          | true => rw [if_pos c2] at hK; exact hK
          | false =>
            rw [if_neg (by rw [c2]; decide)] at hK
            refine ⟨⟨by omega, by omega⟩, clash_ok (by simp; omega) hp (vp_size c1) ?_⟩
            cases c3 : clash (t.take i) (t.getD i noFile).1 (-1) with
            | true => rw [if_pos c3] at hK; exact cond_t rfl hK
            | false =>
              rw [if_neg (by rw [c3]; decide)] at hK
              refine cond_f rfl (linS_ok ?_)
              by_cases c4 : sec (lin (t.getD i noFile).2) i = (0, 0)
              · rw [if_pos c4] at hK
                refine cond_f (fault0 (by exact c4)) ?_
                rw [i64_id (by omega) (by omega)]
                refine val_loop hl fu (i + 1) (by omega) (by omega) (fun f hf => ?_) hK
                rw [List.take_succ_eq_append_getElem g] at hf
                rcases List.mem_append.1 hf with hf | hf
                · exact hp f hf
                · rw [List.mem_singleton.1 hf]
                  rw [List.getD_eq_getElem?_getD, List.getElem?_eq_getElem g] at c1
                  exact vp_size c1
              · rw [if_neg c4] at hK
                exact cond_t (fault1 (by exact c4)) hK
    · rw [List.drop_eq_nil_of_le g] at hK
      exact cond_f (by simp; omega) hK
theorem val_ok {t : Tree} {K : Int → Int → Prop} (hK : K (val t).1 (val t).2) : L.b6 t K := by
  constructor
  unfold L.b6_B
  unfold val at hK
  by_cases c : 24 < t.length
  · rw [if_pos c] at hK; exact cond_t (by simp; omega) hK
  · rw [if_neg c] at hK
    exact cond_f (by simp; omega) ⟨⟨t.length + 1, val_loop (by omega) _ 0 (by omega) (by omega) (fun f hf => by simp at hf) hK⟩⟩
theorem valS_ok {t : Tree} {i : Int} {K : Int → Int → Prop} (hK : K (sec (val t) i).1 (sec (val t) i).2) : L.e3 t i K := ⟨val_ok (sec_ok hK)⟩
end Tp
end Go.Proofs.YtkpplfghhciacaaDoor
set_option linter.unusedVariables false
set_option linter.unusedSimpArgs false
namespace Go.Proofs.YtkpplfghhciacaaDoor
open Eng Bb
namespace Tp
abbrev noHunk : Hunk := (0, ([], []))
theorem lin_len {l : Txt} (h : lin l = (0, 0)) : l.length ≤ 120 := by
  unfold lin at h
  by_cases c : 120 < l.length
  · rw [if_pos c] at h; simp at h
  · omega
def hk (h : Hunk) (e : Int) : Int :=
  if h.1 < 0 ∨ 120 < h.1 then 3 else if lin h.2.1 ≠ (0, 0) then (lin h.2.1).1 else if lin h.2.2 ≠ (0, 0) then (lin h.2.2).1 else
    if h.2.1.length + h.2.2.length = 0 ∨ h.1 ≤ e then 5 else if 120 < h.1 + h.2.1.length then 3 else 0
theorem end_ok {h : Hunk} (h0 : 0 ≤ h.1) (h1 : h.1 ≤ 120) (h2 : h.2.1.length ≤ 120) {K : Int → Prop} (hK : K (h.1 + h.2.1.length)) : L.d7 h.1 h.2.1 h.2.2 K := by
  constructor
  unfold L.d7_B
  rw [i64_id (by omega) (by omega)]; exact hK
theorem hk_ok {h : Hunk} {e : Int} {K : Int → Prop} (hK : K (hk h e)) : L.b1 h.1 h.2.1 h.2.2 e K := by
  constructor
  unfold L.b1_B
  unfold hk at hK
  by_cases c1 : h.1 < 0 ∨ 120 < h.1
  · rw [if_pos c1] at hK
    exact cond_t (by simp only [bor, Bool.or_eq_true, decide_eq_true_eq]; omega) hK
  · rw [if_neg c1] at hK
    refine cond_f (by simp only [bor, Bool.or_eq_false_iff, decide_eq_false_iff_not]; omega) ⟨⟨3, ?_⟩⟩
    show L.b1_L1_b h.2.1 h.2.2 0 _ _ _
    unfold L.b1_L1_b
    refine cond_t rfl ⟨inB_of (by omega) (by omega), lin_ok ?_⟩
    show (bif (!(((lin h.2.1).1 == 0) && (((lin h.2.1).2 == 0) && true))) then K (lin h.2.1).1 else _)
    by_cases c2 : lin h.2.1 ≠ (0, 0)
    · rw [if_pos c2] at hK
      exact cond_t (fault1 (by exact c2)) hK
    · rw [if_neg c2] at hK
      have c2' : lin h.2.1 = (0, 0) := by simpa using c2
      refine cond_f (fault0 (by exact c2')) ?_
      show L.b1_L1_b h.2.1 h.2.2 1 _ _ _
      unfold L.b1_L1_b
      refine cond_t rfl ⟨inB_of (by omega) (by omega), lin_ok ?_⟩
      show (bif (!(((lin h.2.2).1 == 0) && (((lin h.2.2).2 == 0) && true))) then K (lin h.2.2).1 else _)
      by_cases c3 : lin h.2.2 ≠ (0, 0)
      · rw [if_pos c3] at hK
        exact cond_t (fault1 (by exact c3)) hK
      · rw [if_neg c3] at hK
        have c3' : lin h.2.2 = (0, 0) := by simpa using c3
        refine cond_f (fault0 (by exact c3')) ?_
        show L.b1_L1_b h.2.1 h.2.2 2 _ _ _
        unfold L.b1_L1_b
        refine cond_f rfl ?_
        have l1 := lin_len c2'
        have l2 := lin_len c3'
        rw [i64_id (by omega) (by omega)]
        by_cases c4 : h.2.1.length + h.2.2.length = 0 ∨ h.1 ≤ e
        · rw [if_pos c4] at hK
          exact cond_t (by simp only [bor, Bool.or_eq_true, decide_eq_true_eq, beq_iff_eq]; omega) hK
        · rw [if_neg c4] at hK
          refine cond_f (by simp only [bor, Bool.or_eq_false_iff, decide_eq_false_iff_not, beq_eq_false_iff_ne]; omega) (end_ok (by omega) (by omega) l1 ?_)
          by_cases c5 : 120 < h.1 + h.2.1.length
          · rw [if_pos c5] at hK; exact cond_t (decide_eq_true (by omega)) hK
          · rw [if_neg c5] at hK; exact cond_f (decide_eq_false (by omega)) hK
theorem hk_zero {h : Hunk} {e : Int} (hz : hk h e = 0) (hc : ∀ l : Txt, (lin l).1 = 0 → lin l = (0, 0)) : 0 ≤ h.1 ∧ h.1 ≤ 120 ∧ e < h.1 ∧ h.2.1.length ≤ 120 ∧ h.2.2.length ≤ 120 ∧ h.1 + h.2.1.length ≤ 120 := by
  unfold hk at hz
  by_cases c1 : h.1 < 0 ∨ 120 < h.1
  · rw [if_pos c1] at hz; omega
  rw [if_neg c1] at hz
  by_cases c2 : lin h.2.1 ≠ (0, 0)
  · rw [if_pos c2] at hz; exact absurd (hc _ hz) c2
  rw [if_neg c2] at hz
  by_cases c3 : lin h.2.2 ≠ (0, 0)
  · rw [if_pos c3] at hz; exact absurd (hc _ hz) c3
  rw [if_neg c3] at hz
  by_cases c4 : h.2.1.length + h.2.2.length = 0 ∨ h.1 ≤ e
  · rw [if_pos c4] at hz; omega
  rw [if_neg c4] at hz
  by_cases c5 : 120 < h.1 + h.2.1.length
  · rw [if_pos c5] at hz; omega
  have l1 := lin_len (by simpa using c2)
  have l2 := lin_len (by simpa using c3)
  omega
theorem linL_zero : ∀ (l : Txt) (i : Nat), (linL i l).1 = 0 → linL i l = (0, 0)
  | [], i, _ => rfl
  | s :: r, i, h => by
    unfold linL at h ⊢
    by_cases c1 : 80 < s.size
    · rw [if_pos c1] at h; simp at h
    · rw [if_neg c1] at h ⊢
      by_cases c2 : 0 ≤ La.idx_R s 10
      · rw [if_pos c2] at h; simp at h
      · rw [if_neg c2] at h ⊢; exact linL_zero r _ h
theorem lin_zero (l : Txt) (h : (lin l).1 = 0) : lin l = (0, 0) := by
  unfold lin at h ⊢
  by_cases c : 120 < l.length
  · rw [if_pos c] at h; simp at h
  · rw [if_neg c] at h ⊢; exact linL_zero _ _ h
def tpL : Int → Nat → List Hunk → Int × Int
  | _, _, [] => (0, 0)
  | e, i, h :: r => if hk h e ≠ 0 then (hk h e, i) else tpL (h.1 + h.2.1.length) (i + 1) r
def tpV (p : List Hunk) : Int × Int := if 130 < p.length then (2, -1) else tpL (-1) 0 p
theorem tpV_loop {p : List Hunk} (hl : p.length ≤ 130) {K : Int → Int → Prop} : ∀ (fu i : Nat) (e : Int), i ≤ p.length → p.length - i < fu → K (tpL e i (p.drop i)).1 (tpL e i (p.drop i)).2 → L.b5_L1_R p (p.length : Int) fu e i (K 0 0) K
  | 0, i, _, _, h, _ => by omega
  | fu + 1, i, e, hi, h, hK => by
    show L.b5_L1_b p _ e i _ _ _
    unfold L.b5_L1_b
    rcases Nat.lt_or_ge i p.length with g | g
    · rw [drop_cons noHunk g, tpL] at hK
      refine cond_t (by simp; omega) ⟨inB_of (by omega) (by omega), ?_⟩
      simp only [Int.toNat_natCast]
      refine hk_ok (h := p.getD i noHunk) ?_
      by_cases c : hk (p.getD i noHunk) e ≠ 0
      · rw [if_pos c] at hK; exact cond_t (by simpa using c) hK
      · rw [if_neg c] at hK
        have c' : hk (p.getD i noHunk) e = 0 := by simpa using c
        obtain ⟨a1, a2, a3, a4, a5, a6⟩ := hk_zero c' lin_zero
        refine cond_f (by simpa using c') (end_ok (h := p.getD i noHunk) a1 a2 a4 ?_)
        rw [i64_id (by omega) (by omega)]
        exact tpV_loop hl fu (i + 1) _ (by omega) (by omega) hK
    · rw [List.drop_eq_nil_of_le g] at hK
      exact cond_f (by simp; omega) hK
theorem tpV_ok {p : List Hunk} {K : Int → Int → Prop} (hK : K (tpV p).1 (tpV p).2) : L.b5 p K := by
  constructor
  unfold L.b5_B
  unfold tpV at hK
  by_cases c : 130 < p.length
  · rw [if_pos c] at hK; exact cond_t (by simp; omega) hK
  · rw [if_neg c] at hK
    exact cond_f (by simp; omega) ⟨⟨p.length + 1, tpV_loop (by omega) _ 0 _ (by omega) (by omega) hK⟩⟩
def eqL : Txt → Txt → Bool
  | a :: r, b :: s => (a.toList == b.toList) && eqL r s
  | [], [] => true
  | _, _ => false
theorem eq_loop {a b : Txt} (hl : a.length ≤ 120) (he : a.length = b.length) {K : Bool → Prop} : ∀ (fu i : Nat), i ≤ a.length → a.length - i < fu → K (eqL (a.drop i) (b.drop i)) → L.b8_L1_R a b (a.length : Int) fu i (K true) K
  | 0, i, _, h, _ => by omega
  | fu + 1, i, hi, h, hK => by
    show L.b8_L1_b a b _ i _ _ _
    unfold L.b8_L1_b
    rcases Nat.lt_or_ge i a.length with g | g
    · rw [drop_cons ByteArray.empty g, drop_cons ByteArray.empty (show i < b.length by omega), eqL] at hK
      refine cond_t (by simp; omega) ⟨inB_of (by omega) (by omega), inB_of (by omega) (by omega), ?_⟩
      simp only [Int.toNat_natCast]
      cases c : ((a.getD i ByteArray.empty).toList == (b.getD i ByteArray.empty).toList) with
      | false => rw [c] at hK; exact hK
      | true =>
        rw [c] at hK
        refine cond_f rfl ?_
        rw [i64_id (by omega) (by omega)]
        exact eq_loop hl he fu (i + 1) (by omega) (by omega) hK
    · rw [List.drop_eq_nil_of_le g, List.drop_eq_nil_of_le (by omega)] at hK
      exact cond_f (by simp; omega) hK
theorem eqL_len : ∀ {a b : Txt}, a.length ≠ b.length → eqL a b = false
  | [], [], h => absurd rfl h
  | [], _ :: _, _ => rfl
  | _ :: _, [], _ => rfl
  | a :: r, b :: s, h => by
    have : r.length ≠ s.length := fun e => h (by simp [e])
    rw [eqL, eqL_len this, Bool.and_false]
theorem eq_ok {a b : Txt} (hl : a.length ≤ 120) {K : Bool → Prop} (hK : K (eqL a b)) : L.b8 a b K := by
  constructor
  unfold L.b8_B
  by_cases c : a.length = b.length
  · exact cond_f (by simp [c]) ⟨⟨a.length + 1, eq_loop hl c _ 0 (by omega) (by omega) hK⟩⟩
  · rw [eqL_len c] at hK
    exact cond_t (by simp; omega) hK
def oc (text part : Txt) (k : Int) : Bool := decide (0 ≤ k ∧ k ≤ text.length ∧ (part.length : Int) ≤ text.length - k) && eqL ((text.take (k + part.length).toNat).drop k.toNat) part
theorem oc_ok {text part : Txt} {k : Int} (ht : text.length ≤ 120) (hp : part.length ≤ 120) (h0 : 0 ≤ k) (h1 : k ≤ 120) {K : Bool → Prop} (hK : K (oc text part k)) : L.e4 text part k K := by
  constructor
  unfold L.e4_B
  rw [i64_id (n := (text.length : Int) - k) (by omega) (by omega), i64_id (n := k + (part.length : Int)) (by omega) (by omega)]
  unfold oc at hK
  by_cases c : 0 ≤ k ∧ k ≤ text.length ∧ (part.length : Int) ≤ text.length - k
  · have e : (bif (bif (decide (k ≥ 0)) then (decide (k ≤ (text.length : Int))) else false) then (decide ((part.length : Int) ≤ ((text.length : Int) - k))) else false) = true := by
      rw [decide_eq_true (by omega), decide_eq_true (by omega), decide_eq_true (by omega)]; rfl
    rw [e]
    rw [decide_eq_true c, Bool.true_and] at hK
    exact ⟨fun _ => by omega, eq_ok (by simp; omega) hK⟩
  · have e : (bif (bif (decide (k ≥ 0)) then (decide (k ≤ (text.length : Int))) else false) then (decide ((part.length : Int) ≤ ((text.length : Int) - k))) else false) = false := by
      by_cases q1 : k ≥ 0
      · by_cases q2 : k ≤ (text.length : Int)
        · rw [decide_eq_true q1, decide_eq_true q2, decide_eq_false (by omega)]; rfl
        · rw [decide_eq_true q1, decide_eq_false q2]; rfl
      · rw [decide_eq_false q1]; rfl
    rw [e]
    rw [decide_eq_false c, Bool.false_and] at hK
    exact ⟨fun h => by simp at h, hK⟩
def rawL (text : Txt) : Int → List Hunk → Txt → Txt
  | low, [], out => out ++ (text.take text.length).drop low.toNat
  | low, h :: r, out => rawL text (h.1 + h.2.1.length) r ((out ++ (text.take h.1.toNat).drop low.toNat) ++ h.2.2)
def Run (text : Txt) : Int → List Hunk → Prop
  | low, [] => 0 ≤ low ∧ low ≤ text.length
  | low, h :: r => 0 ≤ low ∧ low ≤ h.1 ∧ h.1 ≤ text.length ∧ h.1 ≤ 120 ∧ h.2.1.length ≤ 120 ∧ h.2.2.length ≤ 120 ∧ Run text (h.1 + h.2.1.length) r
theorem raw_loop {text : Txt} {p : List Hunk} (ht : text.length ≤ 120) (hl : p.length ≤ 130) {K : Int → Txt → Prop} {K' : Txt → Prop} (hQ : ∀ (low : Int) (out : Txt), 0 ≤ low → low ≤ text.length → out.length ≤ 31200 → K' (out ++ (text.take text.length).drop low.toNat) → K low out) :
    ∀ (fu i : Nat) (low : Int) (out : Txt), i ≤ p.length → p.length - i < fu → Run text low (p.drop i) → out.length ≤ 240 * i → K' (rawL text low (p.drop i) out) → L.a7_L1_R text p (p.length : Int) fu low i out K
  | 0, i, _, _, _, h, _, _, _ => by omega
  | fu + 1, i, low, out, hi, h, hr, ho, hK => by
    show L.a7_L1_b text p _ low i out _ _
    unfold L.a7_L1_b
    rcases Nat.lt_or_ge i p.length with g | g
    · rw [drop_cons noHunk g, rawL] at hK
      rw [drop_cons noHunk g, Run] at hr
      obtain ⟨r1, r2, r3, r4, r5, r6, r7⟩ := hr
      refine cond_t (by simp; omega) ⟨inB_of (by omega) (by omega), ?_⟩
      simp only [Int.toNat_natCast]
      have hd : ((text.take (p.getD i noHunk).1.toNat).drop low.toNat).length ≤ 120 := by simp; omega
      have f1 : fits (out.length + ((text.take (p.getD i noHunk).1.toNat).drop low.toNat).length) := by unfold fits; omega
      have f2 : fits ((out ++ (text.take (p.getD i noHunk).1.toNat).drop low.toNat).length + (p.getD i noHunk).2.2.length) := by unfold fits; rw [List.length_append]; omega
      have go : L.a7_J1 (p.getD i noHunk).1 (p.getD i noHunk).2.1 (p.getD i noHunk).2.2 (fun low2 => L.a7_L1_R text p (p.length : Int) fu low2 (i64 ((i : Int) + 1)) ((out ++ ((text.take (p.getD i noHunk).1.toNat).drop low.toNat)) ++ (p.getD i noHunk).2.2) K) := by
        refine ⟨end_ok (h := p.getD i noHunk) (by omega) r4 r5 ?_⟩
        rw [i64_id (by omega) (by omega)]
        exact raw_loop ht hl hQ fu (i + 1) _ _ (by omega) (by omega) r7 (by rw [List.length_append, List.length_append]; omega) hK
      exact ⟨⟨r1, r2, r3⟩, ⟨f1, f2, go⟩, f1, f2, go⟩
    · rw [List.drop_eq_nil_of_le g] at hK hr
      exact cond_f (by simp; omega) (hQ low out hr.1 hr.2 (by omega) hK)
theorem raw_ok {text : Txt} {p : List Hunk} (ht : text.length ≤ 120) (hl : p.length ≤ 130) (hr : Run text 0 p) {K : Txt → Prop} (hK : K (rawL text 0 p [])) : L.a7 p text 0 (text.length : Int) K := by
  refine ⟨⟨⟨p.length + 1, raw_loop (K' := K) ht hl (fun low out h0 h1 h2 hK => ?_) _ 0 0 [] (by omega) (by omega) hr (by simp) hK⟩⟩⟩
  refine ⟨⟨h0, h1, by omega⟩, ?_, ?_⟩
  · unfold fits; simp; omega
  · rw [Int.toNat_natCast]; exact hK
def ocL (text : Txt) : Nat → List Hunk → Int × Int
  | _, [] => (0, 0)
  | i, h :: r => if oc text h.2.1 h.1 = false then (19, i) else ocL text (i + 1) r
def tpA (p : List Hunk) (text : Txt) : Txt × Int × Int :=
  if tpV p ≠ (0, 0) then ([], tpV p) else if sec (lin text) (-2) ≠ (0, 0) then ([], sec (lin text) (-2)) else if ocL text 0 p ≠ (0, 0) then ([], ocL text 0 p) else
    if 120 < (rawL text 0 p []).length then ([], (10, -1)) else (rawL text 0 p [], (0, 0))
def Ok (e : Int) : List Hunk → Prop
  | [] => True
  | h :: r => 0 ≤ h.1 ∧ h.1 ≤ 120 ∧ e < h.1 ∧ h.2.1.length ≤ 120 ∧ h.2.2.length ≤ 120 ∧ Ok (h.1 + h.2.1.length) r
theorem tpL_ok : ∀ (p : List Hunk) (e : Int) (i : Nat), tpL e i p = (0, 0) → Ok e p
  | [], _, _, _ => trivial
  | h :: r, e, i, hz => by
    rw [tpL] at hz
    by_cases c : hk h e ≠ 0
    · rw [if_pos c] at hz; exact absurd (congrArg Prod.fst hz) c
    · rw [if_neg c] at hz
      obtain ⟨a1, a2, a3, a4, a5, a6⟩ := hk_zero (by simpa using c) lin_zero
      exact ⟨a1, a2, a3, a4, a5, tpL_ok r _ _ hz⟩
theorem tpV_len {p : List Hunk} (h : tpV p = (0, 0)) : p.length ≤ 130 ∧ Ok (-1) p := by
  unfold tpV at h
  by_cases c : 130 < p.length
  · rw [if_pos c] at h; simp at h
  · rw [if_neg c] at h; exact ⟨by omega, tpL_ok _ _ _ h⟩
theorem Ok_mem : ∀ {p : List Hunk} {e : Int}, Ok e p → ∀ h, h ∈ p → 0 ≤ h.1 ∧ h.1 ≤ 120 ∧ h.2.1.length ≤ 120
  | [], _, _, h, hm => by cases hm
  | a :: r, e, ho, h, hm => by
    rcases List.mem_cons.1 hm with rfl | hm
    · exact ⟨ho.1, ho.2.1, ho.2.2.2.1⟩
    · exact Ok_mem ho.2.2.2.2.2 h hm
theorem oc_loop {text : Txt} {p : List Hunk} (ht : text.length ≤ 120) (hl : p.length ≤ 130) (hm : ∀ h, h ∈ p → 0 ≤ h.1 ∧ h.1 ≤ 120 ∧ h.2.1.length ≤ 120) {K : Int → Int → Prop} {Q : Prop} :
    ∀ (fu i : Nat), i ≤ p.length → p.length - i < fu → (ocL text i (p.drop i) = (0, 0) → Q) → (ocL text i (p.drop i) ≠ (0, 0) → K (ocL text i (p.drop i)).1 (ocL text i (p.drop i)).2) → L.c0_L1_R text p (p.length : Int) fu i Q K
  | 0, i, _, h, _, _ => by omega
  | fu + 1, i, hi, h, hQ, hK => by
    show L.c0_L1_b text p _ i _ _ _
    unfold L.c0_L1_b
    rcases Nat.lt_or_ge i p.length with g | g
    · rw [drop_cons noHunk g, ocL] at hK hQ
      refine cond_t (by simp; omega) ⟨inB_of (by omega) (by omega), ?_⟩
      simp only [Int.toNat_natCast]
      obtain ⟨m1, m2, m3⟩ := hm _ (getD_mem noHunk g)
      refine oc_ok ht m3 m1 m2 ?_
      by_cases c : oc text (p.getD i noHunk).2.1 (p.getD i noHunk).1 = false
      · rw [if_pos c] at hK
        exact cond_t (by rw [c]; rfl) (hK (by simp))
      · rw [if_neg c] at hK hQ
        refine cond_f (by simp only [Bool.not_eq_false] at c; rw [c]; rfl) ?_
        rw [i64_id (by omega) (by omega)]
        exact oc_loop ht hl hm fu (i + 1) (by omega) (by omega) hQ hK
    · rw [List.drop_eq_nil_of_le g] at hQ
      exact cond_f (by simp; omega) (hQ rfl)
theorem run_of {text : Txt} : ∀ {p : List Hunk} {e low : Int} {i : Nat}, Ok e p → ocL text i p = (0, 0) → 0 ≤ low → low ≤ e + 1 → low ≤ text.length → Run text low p
  | [], _, _, _, _, _, h0, _, h2 => ⟨h0, h2⟩
  | h :: r, e, low, i, ho, hz, h0, h1, h2 => by
    obtain ⟨a1, a2, a3, a4, a5, a6⟩ := ho
    rw [ocL] at hz
    by_cases c : oc text h.2.1 h.1 = false
    · rw [if_pos c] at hz; simp at hz
    · rw [if_neg c] at hz
      have c' : oc text h.2.1 h.1 = true := by simpa using c
      unfold oc at c'
      simp only [Bool.and_eq_true, decide_eq_true_eq] at c'
      obtain ⟨⟨b1, b2, b3⟩, _⟩ := c'
      exact ⟨h0, by omega, b2, a2, a4, a5, run_of a6 hz (by omega) (by omega) (by omega)⟩
theorem sec_zero {f : Int × Int} {i : Int} (hf : f.1 = 0 → f = (0, 0)) (h : sec f i = (0, 0)) : f = (0, 0) := by
  unfold sec at h
  by_cases c : f = (0, 0)
  · exact c
  · rw [if_neg c] at h; exact hf (congrArg Prod.fst h)
theorem tpA_ok {p : List Hunk} {text : Txt} {K : Txt → Int → Int → Prop} (hK : K (tpA p text).1 (tpA p text).2.1 (tpA p text).2.2) : L.c0 p text K := by
  refine ⟨tpV_ok ?_⟩
  unfold tpA at hK
  by_cases c1 : tpV p ≠ (0, 0)
  · rw [if_pos c1] at hK; exact cond_t (fault1 (by exact c1)) hK
  rw [if_neg c1] at hK
  have c1' : tpV p = (0, 0) := by simpa using c1
  refine cond_f (fault0 (by exact c1')) (linS_ok ?_)
  by_cases c2 : sec (lin text) (-2) ≠ (0, 0)
  · rw [if_pos c2] at hK; exact cond_t (fault1 (by exact c2)) hK
  rw [if_neg c2] at hK
  have c2' : sec (lin text) (-2) = (0, 0) := by simpa using c2
  have ht := lin_len (sec_zero (lin_zero text) c2')
  obtain ⟨hl, ho⟩ := tpV_len c1'
  refine cond_f (fault0 (by exact c2')) ⟨⟨p.length + 1, oc_loop ht hl (Ok_mem ho) _ 0 (by omega) (by omega) (fun hz => ?_) (fun hz => ?_)⟩⟩
  · rw [List.drop_zero] at hz
    rw [if_neg (by simpa using hz)] at hK
    refine raw_ok ht hl (run_of ho hz (by omega) (by omega) (by omega)) ?_
    by_cases c3 : 120 < (rawL text 0 p []).length
    · rw [if_pos c3] at hK; exact cond_t (decide_eq_true (by omega)) hK
    · rw [if_neg c3] at hK; exact cond_f (decide_eq_false (by omega)) hK
  · rw [List.drop_zero] at hz ⊢
    rw [if_pos hz] at hK; exact hK
end Tp
end Go.Proofs.YtkpplfghhciacaaDoor
set_option linter.unusedVariables false
set_option linter.unusedSimpArgs false
namespace Go.Proofs.YtkpplfghhciacaaDoor
open Eng Bb
namespace Tp
def chk2 (c : Chg) : Int := if lin c.2.2.2.1 ≠ (0, 0) then (lin c.2.2.2.1).1 else (tpV c.2.2.2.2).1
def chk1 (c : Chg) : Int :=
  if (decide (0 < c.2.2.2.1.length) && (c.1 == 4 || c.1 == 3)) = true then 5 else if (!(c.1 == 4) == decide (0 < c.2.2.2.2.length)) = true then 5 else chk2 c
def chk (c : Chg) : Int :=
  if c.1 < 1 ∨ 4 < c.1 then 4 else if La.vp_R c.2.1 = false then 12 else if (c.1 == 3 && !La.vp_R c.2.2.1) = true then 12 else
    if (!(c.1 == 3) && !(c.2.2.1.toList == L.str1.toList)) = true then 5 else if (c.1 == 3 && rel c.2.1 c.2.2.1) = true then 5 else chk1 c
theorem chk2_ok {c : Chg} {K : Int → Prop} (hK : K (chk2 c)) : L.a3_J3 c.2.2.2.1 c.2.2.2.2 K := by
  refine ⟨lin_ok ?_⟩
  unfold chk2 at hK
  by_cases c1 : lin c.2.2.2.1 ≠ (0, 0)
  · rw [if_pos c1] at hK; exact cond_t (fault1 (by exact c1)) hK
  · rw [if_neg c1] at hK
    exact cond_f (fault0 (Decidable.not_not.1 c1)) (tpV_ok hK)
theorem chk1_ok {c : Chg} {K : Int → Prop} (hK : K (chk1 c)) : L.a3_J1 (c.1 == 4) (c.1 == 3) false c.2.2.2.1 c.2.2.2.2 (L.a3_J3 c.2.2.2.1 c.2.2.2.2 K) K := by
  constructor
  unfold L.a3_J1_B
  refine cond_f rfl ?_
  unfold chk1 at hK
  have e1 : (bif (decide ((c.2.2.2.1.length : Int) > 0)) then (bif (c.1 == 4) then true else (c.1 == 3)) else false) = (decide (0 < c.2.2.2.1.length) && (c.1 == 4 || c.1 == 3)) := by
    have : decide ((c.2.2.2.1.length : Int) > 0) = decide (0 < c.2.2.2.1.length) := by simp
    rw [this]
    cases decide (0 < c.2.2.2.1.length) <;> cases (c.1 == 4) <;> rfl
  have e2 : (!((c.1 == 4) == (decide ((c.2.2.2.2.length : Int) > 0)))) = (!(c.1 == 4) == decide (0 < c.2.2.2.2.length)) := by
    have : decide ((c.2.2.2.2.length : Int) > 0) = decide (0 < c.2.2.2.2.length) := by simp
    rw [this]
  rw [e1, e2]
  cases c1 : (decide (0 < c.2.2.2.1.length) && (c.1 == 4 || c.1 == 3)) with
  | true => rw [if_pos c1] at hK; exact hK
  | false =>
    rw [if_neg (by rw [c1]; decide)] at hK
    refine cond_f rfl ?_
    cases c2 : (!(c.1 == 4) == decide (0 < c.2.2.2.2.length)) with
    | true => rw [if_pos c2] at hK; exact hK
    | false =>
      rw [if_neg (by rw [c2]; decide)] at hK
      exact chk2_ok hK
theorem chk_ok {c : Chg} {K : Int → Prop} (hK : K (chk c)) : L.a3 c.1 c.2.1 c.2.2.1 c.2.2.2.1 c.2.2.2.2 K := by
  constructor
  unfold L.a3_B
  unfold chk at hK
  by_cases c1 : c.1 < 1 ∨ 4 < c.1
  · rw [if_pos c1] at hK
    exact cond_t (by simp only [bor, Bool.or_eq_true, decide_eq_true_eq]; omega) hK
  rw [if_neg c1] at hK
  refine cond_f (by simp only [bor, Bool.or_eq_false_iff, decide_eq_false_iff_not]; omega) ⟨?_⟩
  show (bif (!La.vp_R c.2.1) then _ else _)
  cases c2 : La.vp_R c.2.1 with
  | false =>
    rw [if_pos c2] at hK
    exact cond_t rfl ⟨cond_t rfl hK⟩
  | true =>
    rw [if_neg (by rw [c2]; decide)] at hK
    refine cond_f rfl ?_
    have rest : (c.1 == 3 && !La.vp_R c.2.2.1) = false → L.a3_J2 (c.1 == 4) (c.1 == 3) false c.2.1 c.2.2.1 c.2.2.2.1 c.2.2.2.2 (L.a3_J3 c.2.2.2.1 c.2.2.2.2 K) K := fun c3 => by
      rw [if_neg (by rw [c3]; decide)] at hK
      constructor
      unfold L.a3_J2_B
      refine cond_f rfl ?_
      cases c4 : (c.1 == 3) with
      | true =>
        rw [c4] at hK c3
        simp only [Bool.not_true, Bool.false_and, Bool.false_eq_true, if_false, Bool.true_and] at hK c3
        refine cond_f rfl (cond_t rfl (rel_ok (vp_size c2) (vp_size (by simpa using c3)) ?_))
        cases c5 : rel c.2.1 c.2.2.1 with
        | true => rw [if_pos c5] at hK; exact ⟨cond_t rfl hK⟩
        | false =>
          rw [if_neg (by rw [c5]; decide)] at hK
          have := chk1_ok hK
          rw [c4] at this
          exact this
      | false =>
        rw [c4] at hK
        simp only [Bool.not_false, Bool.true_and, Bool.false_and, Bool.false_eq_true, if_false] at hK
        cases c5 : (c.2.2.1.toList == L.str1.toList) with
        | false =>
          rw [c5] at hK
          exact cond_t rfl ⟨cond_t rfl hK⟩
        | true =>
          rw [c5] at hK
          refine cond_f rfl (cond_f rfl ?_)
          have := chk1_ok (K := K) hK
          rw [c4] at this
          exact this
    cases c4 : (c.1 == 3) with
    | false =>
      have := rest (by rw [c4]; rfl)
      rw [c4] at this
      exact this
    | true =>
      refine cond_t rfl ⟨?_⟩
      show L.a3_J2 (c.1 == 4) true (bif false then true else (bif true then (!La.vp_R c.2.2.1) else false)) _ _ _ _ _ _
      cases c3 : La.vp_R c.2.2.1 with
      | true =>
        have := rest (by rw [c3]; simp)
        rw [c4] at this
        exact this
      | false =>
        rw [if_pos (by rw [c3, c4]; rfl)] at hK
        exact ⟨cond_t rfl hK⟩
def vPL : Nat → Patch → Int × Int
  | _, [] => (0, 0)
  | i, c :: r => if chk c ≠ 0 then (chk c, i) else vPL (i + 1) r
def vP (p : Patch) : Int × Int := if 30 < p.length then (2, -1) else vPL 0 p
theorem vP_loop {p : Patch} (hl : p.length ≤ 30) {K : Int → Int → Prop} : ∀ (fu i : Nat), i ≤ p.length → p.length - i < fu → K (vPL i (p.drop i)).1 (vPL i (p.drop i)).2 → L.b4_L1_R p (p.length : Int) fu i (K 0 0) K
  | 0, i, _, h, _ => by omega
  | fu + 1, i, hi, h, hK => by
    show L.b4_L1_b p _ i _ _ _
    unfold L.b4_L1_b
    rcases Nat.lt_or_ge i p.length with g | g
    · rw [drop_cons noChg g, vPL] at hK
      refine cond_t (by simp; omega) ⟨inB_of (by omega) (by omega), ?_⟩
      simp only [Int.toNat_natCast]
      refine chk_ok (c := p.getD i noChg) ?_
      by_cases c : chk (p.getD i noChg) ≠ 0
      · rw [if_pos c] at hK; exact cond_t (by simpa using c) hK
      · rw [if_neg c] at hK
        refine cond_f (by simpa using c) ?_
        rw [i64_id (by omega) (by omega)]
        exact vP_loop hl fu (i + 1) (by omega) (by omega) hK
    · rw [List.drop_eq_nil_of_le g] at hK
      exact cond_f (by simp; omega) hK
theorem vP_ok {p : Patch} {K : Int → Int → Prop} (hK : K (vP p).1 (vP p).2) : L.b4 p K := by
  constructor
  unfold L.b4_B
  unfold vP at hK
  by_cases c : 30 < p.length
  · rw [if_pos c] at hK; exact cond_t (by simp; omega) hK
  · rw [if_neg c] at hK
    exact cond_f (by simp; omega) ⟨⟨p.length + 1, vP_loop (by omega) _ 0 (by omega) (by omega) hK⟩⟩
theorem clone_ok {s : Txt} (h : s.length ≤ 120) {K : Txt → Prop} (hK : K s) : L.c8 s K := by
  refine ⟨fun b hb => ?_⟩
  cases b with
  | true =>
    cases s with
    | nil => exact hK
    | cons a t => exact absurd (hb (by simp)) (by decide)
  | false => exact ⟨by unfold fits; simp; omega, by simpa using hK⟩
theorem copy_loop {t : Tree} (hl : t.length ≤ 24) (hf : ∀ f, f ∈ t → f.2.length ≤ 120) {K : Tree → Prop} (hK : K t) : ∀ (fu i : Nat), i ≤ t.length → t.length - i < fu → L.a9_L1_R t (t.length : Int) fu i (t.take i) K
  | 0, i, _, h => by omega
  | fu + 1, i, hi, h => by
    show L.a9_L1_b t _ i (t.take i) _ _
    unfold L.a9_L1_b
    rcases Nat.lt_or_ge i t.length with g | g
    · refine cond_t (by simp; omega) ⟨inB_of (by omega) (by omega), ?_⟩
      simp only [Int.toNat_natCast]
      have hm := hf _ (getD_mem noFile g)
      have e : t.take i ++ ([((t.getD i noFile).1, (t.getD i noFile).2)] : Tree) = t.take (i + 1) := by
        rw [List.take_succ_eq_append_getElem g, List.getD_eq_getElem?_getD, List.getElem?_eq_getElem g]; rfl
      have one : (fits ((t.take i).length + ([((t.getD i noFile).1, (t.getD i noFile).2)] : Tree).length)) ∧ L.a9_L1_R t (t.length : Int) fu (i64 ((i : Int) + 1)) (t.take i ++ ([((t.getD i noFile).1, (t.getD i noFile).2)] : Tree)) K := by
        refine ⟨by unfold fits; simp; omega, ?_⟩
        rw [e, i64_id (by omega) (by omega)]
        exact copy_loop hl hf hK fu (i + 1) (by omega) (by omega)
      exact ⟨⟨clone_ok hm one, clone_ok hm one⟩, ⟨clone_ok hm one, clone_ok hm ⟨one, one⟩⟩, clone_ok hm ⟨one, one, one⟩⟩
    · rw [List.take_of_length_le g]
      exact cond_f (by simp; omega) hK
theorem copy_ok {t : Tree} (hl : t.length ≤ 24) (hf : ∀ f, f ∈ t → f.2.length ≤ 120) {K : Tree → Prop} (hK : K t) : L.a9 t K :=
  ⟨⟨⟨t.length + 1, copy_loop hl hf hK _ 0 (by omega) (by omega)⟩⟩⟩
def bsL (t : Tree) (p : ByteArray) : Nat → Nat → Nat → Nat
  | 0, i, _ => i
  | n + 1, i, j => if i < j then (if La.cmp_R (t.getD ((i + j) / 2) noFile).1 p < 0 then bsL t p n ((i + j) / 2 + 1) j else bsL t p n i ((i + j) / 2)) else i
def place (t : Tree) (p : ByteArray) : Nat := bsL t p (t.length + 1) 0 t.length
def found (t : Tree) (p : ByteArray) : Bool := decide (place t p < t.length) && (La.cmp_R (t.getD (place t p) noFile).1 p == 0)
theorem half {i j : Nat} (h : i + j ≤ 1000) : i64 ((IntKind.wrap .u64 (i64 ((i : Int) + (j : Int)))).fdiv (2 ^ (min (1 : Int).toNat 64))) = (((i + j) / 2 : Nat) : Int) := by
  rw [i64_id (n := (i : Int) + j) (by omega) (by omega)]
  have e1 : IntKind.wrap .u64 ((i : Int) + (j : Int)) = ((i + j : Nat) : Int) := by
    show ((i : Int) + (j : Int)) % 18446744073709551616 = _
    omega
  have e2 : (2 ^ (min (1 : Int).toNat 64) : Int) = 2 := by decide
  rw [e1, e2, Int.fdiv_eq_ediv_of_nonneg _ (by decide), i64_id (by omega) (by omega)]
  omega
theorem bs_loop {t : Tree} {p : ByteArray} (hl : t.length ≤ 24) {K : Int → Prop} : ∀ (fu i j : Nat), i ≤ j → j ≤ t.length → j - i < fu → K (bsL t p fu i j : Nat) → L.c1_L1_R t p fu i j K
  | 0, i, j, _, _, h, _ => by omega
  | fu + 1, i, j, hi, hj, h, hK => by
    show L.c1_L1_b t p i j _ _
    unfold L.c1_L1_b
    rw [bsL] at hK
    by_cases c : i < j
    · rw [if_pos c] at hK
      rw [half (by omega)]
      refine cond_t (by simpa using c) ⟨by decide, inB_of (by omega) (by omega), ⟨⟨?_⟩⟩⟩
      show (bif decide (La.cmp_R (t.getD (((i + j) / 2 : Nat) : Int).toNat noFile).1 p < 0) then _ else _)
      rw [Int.toNat_natCast]
      by_cases c2 : La.cmp_R (t.getD ((i + j) / 2) noFile).1 p < 0
      · rw [if_pos c2] at hK
        refine cond_t (decide_eq_true c2) ?_
        rw [i64_id (by omega) (by omega)]
        exact bs_loop hl fu ((i + j) / 2 + 1) j (by omega) hj (by omega) hK
      · rw [if_neg c2] at hK
        exact cond_f (decide_eq_false c2) (bs_loop hl fu i ((i + j) / 2) (by omega) (by omega) (by omega) hK)
    · rw [if_neg c] at hK
      exact cond_f (by simpa using c) hK
theorem bsL_le {t : Tree} {p : ByteArray} : ∀ (n i j : Nat), i ≤ j → bsL t p n i j ≤ j
  | 0, i, j, h => h
  | n + 1, i, j, h => by
    rw [bsL]
    by_cases c : i < j
    · rw [if_pos c]
      by_cases c2 : La.cmp_R (t.getD ((i + j) / 2) noFile).1 p < 0
      · rw [if_pos c2]; exact bsL_le n _ j (by omega)
      · rw [if_neg c2]; have := bsL_le (t := t) (p := p) n i ((i + j) / 2) (by omega); omega
    · rw [if_neg c]; exact h
theorem place_le {t : Tree} {p : ByteArray} : place t p ≤ t.length := bsL_le _ _ _ (Nat.zero_le _)
theorem find_ok {t : Tree} {p : ByteArray} (hl : t.length ≤ 24) {K : Int → Bool → Prop} (hK : K (place t p : Nat) (found t p)) : L.c6 t p K := by
  refine ⟨⟨⟨t.length + 1, bs_loop hl _ 0 t.length (by omega) (by omega) (by omega) ?_⟩⟩⟩
  refine ⟨fun h => inB_of (by omega) (by simpa using h), ?_⟩
  unfold found at hK
  show (bif decide (((place t p : Nat) : Int) < (t.length : Int)) then _ else _)
  by_cases c : place t p < t.length
  · rw [decide_eq_true c, Bool.true_and] at hK
    refine cond_t (by simpa using c) ⟨⟨?_⟩⟩
    rw [Int.toNat_natCast]
    exact hK
  · rw [decide_eq_false c, Bool.false_and] at hK
    exact cond_f (by simpa using c) hK
end Tp
end Go.Proofs.YtkpplfghhciacaaDoor
set_option linter.unusedVariables false
set_option linter.unusedSimpArgs false
namespace Go.Proofs.YtkpplfghhciacaaDoor
open Eng Bb
namespace Tp
def ins (t : Tree) (k : Nat) (f : File) : Tree := (t.take k ++ [f]) ++ t.drop k
def del (t : Tree) (k : Nat) : Tree := t.take k ++ t.drop (k + 1)
def setL (t : Tree) (k : Nat) (l : Txt) : Tree := t.set k ((t.getD k noFile).1, l)
def put (p : ByteArray) (l : Txt) (t : Tree) : Tree := if found t p = true then setL t (place t p) l else setL (ins t (place t p) (p, [])) (place t p) l
theorem ins_len {t : Tree} {k : Nat} {f : File} (h : k ≤ t.length) : (ins t k f).length = t.length + 1 := by
  unfold ins; simp; omega
theorem put1_ok {t : Tree} {k : Nat} {l : Txt} (hk : k < t.length) (hl : l.length ≤ 120) {K : Tree → Prop} (hK : K (setL t k l)) : L.c4_J1 l (k : Int) t K := by
  have one : (inB (k : Int) t.length) ∧ K (t.set (k : Int).toNat ((t.getD (k : Int).toNat noFile).1, l)) := ⟨inB_of (by omega) (by omega), by rw [Int.toNat_natCast]; exact hK⟩
  exact ⟨⟨clone_ok hl one, clone_ok hl one⟩⟩
theorem put_ok {t : Tree} {p : ByteArray} {l : Txt} (ht : t.length ≤ 24) (hl : l.length ≤ 120) {K : Tree → Prop} (hK : K (put p l t)) : L.c4 p l t K := by
  refine ⟨find_ok ht ?_⟩
  unfold put at hK
  have hp : place t p ≤ t.length := place_le
  cases c : found t p with
  | true =>
    rw [if_pos c] at hK
    have hlt : place t p < t.length := by
      unfold found at c
      simp only [Bool.and_eq_true, decide_eq_true_eq] at c
      exact c.1
    exact cond_f rfl (put1_ok hlt hl hK)
  | false =>
    rw [if_neg (by rw [c]; decide)] at hK
    refine cond_t rfl ⟨⟨by omega, by omega, by simp, by unfold fits; simp; omega⟩, ?_⟩
    rw [Int.toNat_natCast]
    exact put1_ok (t := ins t (place t p) (p, [])) (by rw [ins_len hp]; omega) hl hK
def Good (c : Chg) : Prop := c.2.1.size ≤ 60 ∧ (c.1 = 3 → c.2.2.1.size ≤ 60) ∧ c.2.2.2.1.length ≤ 120
def mk1 (c : Chg) (t : Tree) : Int × Tree :=
  if c.1 = 1 then (if clash t c.2.1 (-1) = true then (7, t) else if 24 ≤ t.length then (14, t) else (0, put c.2.1 c.2.2.2.1 t)) else
    if found t c.2.1 = false then (6, t) else
      if c.1 = 2 then (if eqL (t.getD (place t c.2.1) noFile).2 c.2.2.2.1 = false then (19, t) else (0, del t (place t c.2.1))) else
        if c.1 = 3 then (if clash t c.2.2.1 (place t c.2.1) = true then (7, t) else (0, put c.2.2.1 (t.getD (place t c.2.1) noFile).2 (del t (place t c.2.1)))) else
          if (tpA c.2.2.2.2 (t.getD (place t c.2.1) noFile).2).2 ≠ (0, 0) then ((tpA c.2.2.2.2 (t.getD (place t c.2.1) noFile).2).2.1, t) else
            (0, setL t (place t c.2.1) (tpA c.2.2.2.2 (t.getD (place t c.2.1) noFile).2).1)
theorem found_lt {t : Tree} {p : ByteArray} (h : found t p = true) : place t p < t.length := by
  unfold found at h
  simp only [Bool.and_eq_true, decide_eq_true_eq] at h
  exact h.1
theorem inv_pth {t : Tree} (h : Inv t) : Pth t := fun f hf => (h.2 f hf).1
theorem del_len {t : Tree} {k : Nat} (h : k < t.length) : (del t k).length = t.length - 1 := by unfold del; simp; omega
theorem mk1_ok {c : Chg} {t : Tree} (hg : Good c) (ht : Inv t) {K : Int → Tree → Prop} (hK : K (mk1 c t).1 (mk1 c t).2) : L.d4 c.1 c.2.1 c.2.2.1 c.2.2.2.1 c.2.2.2.2 t K := by
  refine ⟨find_ok ht.1 ?_⟩
  unfold mk1 at hK
  by_cases c1 : c.1 = 1
  · rw [if_pos c1] at hK
    refine cond_t (by simpa using c1) (clash_ok ht.1 (inv_pth ht) hg.1 ?_)
    cases c2 : clash t c.2.1 (-1) with
    | true => rw [if_pos c2] at hK; exact hK
    | false =>
      rw [if_neg (by rw [c2]; decide)] at hK
      refine cond_f rfl ?_
      by_cases c3 : 24 ≤ t.length
      · rw [if_pos c3] at hK; exact cond_t (decide_eq_true (by omega)) hK
      · rw [if_neg c3] at hK
        exact cond_f (decide_eq_false (by omega)) (put_ok ht.1 hg.2.2 hK)
  rw [if_neg c1] at hK
  refine cond_f (by simpa using c1) ?_
  cases c2 : found t c.2.1 with
  | false => rw [if_pos c2] at hK; exact hK
  | true =>
    rw [if_neg (by rw [c2]; decide)] at hK
    have hlt := found_lt c2
    have hfl := (ht.2 _ (getD_mem noFile hlt)).2
    have e1 : i64 (((place t c.2.1 : Nat) : Int) + 1) = ((place t c.2.1 + 1 : Nat) : Int) := by
      have := ht.1
      rw [i64_id (by omega) (by omega)]; omega
    have cd : (0 ≤ ((place t c.2.1 : Nat) : Int) ∧ ((place t c.2.1 : Nat) : Int) < (i64 (((place t c.2.1 : Nat) : Int) + 1)) ∧ (i64 (((place t c.2.1 : Nat) : Int) + 1)) ≤ (t.length : Int) ∧ fits t.length) := by
      rw [e1]
      have := ht.1
      exact ⟨by omega, by omega, by omega, by unfold fits; omega⟩
    have ed : t.take (((place t c.2.1 : Nat) : Int)).toNat ++ t.drop (i64 (((place t c.2.1 : Nat) : Int) + 1)).toNat = del t (place t c.2.1) := by
      rw [e1, Int.toNat_natCast, Int.toNat_natCast]; rfl
    refine cond_f rfl ⟨inB_of (by omega) (by omega), ?_⟩
    simp only [Int.toNat_natCast] at ed ⊢
    by_cases c3 : c.1 = 2
    · rw [if_pos c3] at hK
      refine cond_t (by simpa using c3) (eq_ok hfl ?_)
      cases c4 : eqL (t.getD (place t c.2.1) noFile).2 c.2.2.2.1 with
      | false => rw [if_pos c4] at hK; exact hK
      | true =>
        rw [if_neg (by rw [c4]; decide)] at hK
        refine cond_f rfl ⟨cd, ?_⟩
        rw [ed]; exact hK
    rw [if_neg c3] at hK
    refine cond_f (by simpa using c3) ?_
    by_cases c4 : c.1 = 3
    · rw [if_pos c4] at hK
      refine cond_t (by simpa using c4) (clash_ok ht.1 (inv_pth ht) (hg.2.1 c4) ?_)
      cases c5 : clash t c.2.2.1 (place t c.2.1) with
      | true => rw [if_pos c5] at hK; exact hK
      | false =>
        rw [if_neg (by rw [c5]; decide)] at hK
        refine cond_f rfl ⟨cd, ?_⟩
        rw [ed]
        exact put_ok (by rw [del_len hlt]; have := ht.1; omega) hfl hK
    rw [if_neg c4] at hK
    refine cond_f (by simpa using c4) (tpA_ok ?_)
    by_cases c5 : (tpA c.2.2.2.2 (t.getD (place t c.2.1) noFile).2).2 ≠ (0, 0)
    · rw [if_pos c5] at hK
      exact cond_t (fault1 (by exact c5)) hK
    · rw [if_neg c5] at hK
      exact cond_f (fault0 (Decidable.not_not.1 c5)) ⟨inB_of (by omega) (by omega), hK⟩
theorem tpA_len (p : List Hunk) (t : Txt) : (tpA p t).1.length ≤ 120 := by
  unfold tpA
  repeat' split
  all_goals simp <;> omega
theorem setL_inv {t : Tree} {k : Nat} {l : Txt} (ht : Inv t) (hk : k < t.length) (hl : l.length ≤ 120) : Inv (setL t k l) := by
  refine ⟨by unfold setL; simp; exact ht.1, fun f hf => ?_⟩
  rcases List.mem_or_eq_of_mem_set hf with h | h
  · exact ht.2 f h
  · rw [h]; exact ⟨(ht.2 _ (getD_mem noFile hk)).1, hl⟩
theorem del_inv {t : Tree} {k : Nat} (ht : Inv t) (hk : k < t.length) : Inv (del t k) := by
  refine ⟨by rw [del_len hk]; have := ht.1; omega, fun f hf => ?_⟩
  rcases List.mem_append.1 hf with h | h
  · exact ht.2 f (List.mem_of_mem_take h)
  · exact ht.2 f (List.mem_of_mem_drop h)
theorem put_inv {t : Tree} {p : ByteArray} {l : Txt} (ht : Inv t) (h24 : t.length < 24) (hp : p.size ≤ 60) (hl : l.length ≤ 120) : Inv (put p l t) := by
  unfold put
  by_cases c : found t p = true
  · rw [if_pos c]; exact setL_inv ht (found_lt c) hl
  · rw [if_neg c]
    refine setL_inv ⟨by rw [ins_len place_le]; omega, fun f hf => ?_⟩ (by rw [ins_len place_le]; have := place_le (t := t) (p := p); omega) hl
    rcases List.mem_append.1 hf with h | h
    · rcases List.mem_append.1 h with h | h
      · exact ht.2 f (List.mem_of_mem_take h)
      · rw [List.mem_singleton.1 h]; exact ⟨hp, by simp⟩
    · exact ht.2 f (List.mem_of_mem_drop h)
theorem mk1_inv {c : Chg} {t : Tree} (hg : Good c) (ht : Inv t) : Inv (mk1 c t).2 := by
  unfold mk1
  by_cases c1 : c.1 = 1
  · rw [if_pos c1]
    by_cases c2 : clash t c.2.1 (-1) = true
    · rw [if_pos c2]; exact ht
    · rw [if_neg c2]
      by_cases c3 : 24 ≤ t.length
      · rw [if_pos c3]; exact ht
      · rw [if_neg c3]; exact put_inv ht (by omega) hg.1 hg.2.2
  rw [if_neg c1]
  by_cases c2 : found t c.2.1 = false
  · rw [if_pos c2]; exact ht
  rw [if_neg c2]
  have hlt := found_lt (by simpa using c2)
  have hfl := (ht.2 _ (getD_mem noFile hlt)).2
  by_cases c3 : c.1 = 2
  · rw [if_pos c3]
    by_cases c4 : eqL (t.getD (place t c.2.1) noFile).2 c.2.2.2.1 = false
    · rw [if_pos c4]; exact ht
    · rw [if_neg c4]; exact del_inv ht hlt
  rw [if_neg c3]
  by_cases c4 : c.1 = 3
  · rw [if_pos c4]
    by_cases c5 : clash t c.2.2.1 (place t c.2.1) = true
    · rw [if_pos c5]; exact ht
    · rw [if_neg c5]; exact put_inv (del_inv ht hlt) (by rw [del_len hlt]; have := ht.1; omega) (hg.2.1 c4) hfl
  rw [if_neg c4]
  by_cases c5 : (tpA c.2.2.2.2 (t.getD (place t c.2.1) noFile).2).2 ≠ (0, 0)
  · rw [if_pos c5]; exact ht
  · rw [if_neg c5]; exact setL_inv ht hlt (tpA_len _ _)
theorem chk_good {c : Chg} (h : chk c = 0) : Good c := by
  unfold chk at h
  by_cases c1 : c.1 < 1 ∨ 4 < c.1
  · rw [if_pos c1] at h; omega
  rw [if_neg c1] at h
  by_cases c2 : La.vp_R c.2.1 = false
  · rw [if_pos c2] at h; omega
  rw [if_neg c2] at h
  by_cases c3 : (c.1 == 3 && !La.vp_R c.2.2.1) = true
  · rw [if_pos c3] at h; omega
  rw [if_neg c3] at h
  split at h
  · omega
  split at h
  · omega
  unfold chk1 at h
  split at h
  · omega
  split at h
  · omega
  unfold chk2 at h
  refine ⟨vp_size (by simpa using c2), fun e => vp_size ?_, ?_⟩
  · rw [e] at c3
    simpa using c3
  · by_cases c6 : lin c.2.2.2.1 ≠ (0, 0)
    · rw [if_pos c6] at h; exact absurd (lin_zero _ h) c6
    · exact lin_len (Decidable.not_not.1 c6)
theorem vPL_good : ∀ (p : Patch) (i : Nat), vPL i p = (0, 0) → ∀ c, c ∈ p → Good c
  | [], _, _, c, hc => by cases hc
  | a :: r, i, h, c, hc => by
    rw [vPL] at h
    by_cases c1 : chk a ≠ 0
    · rw [if_pos c1] at h; exact absurd (congrArg Prod.fst h) c1
    · rw [if_neg c1] at h
      rcases List.mem_cons.1 hc with rfl | hc
      · exact chk_good (Decidable.not_not.1 c1)
      · exact vPL_good r _ h c hc
theorem vP_good {p : Patch} (h : vP p = (0, 0)) : p.length ≤ 30 ∧ ∀ c, c ∈ p → Good c := by
  unfold vP at h
  by_cases c : 30 < p.length
  · rw [if_pos c] at h; simp at h
  · rw [if_neg c] at h; exact ⟨by omega, vPL_good _ _ h⟩
theorem vPL_zero : ∀ (p : Patch) (i : Nat), (vPL i p).1 = 0 → vPL i p = (0, 0)
  | [], _, _ => rfl
  | a :: r, i, h => by
    rw [vPL] at h ⊢
    by_cases c1 : chk a ≠ 0
    · rw [if_pos c1] at h; exact absurd h c1
    · rw [if_neg c1] at h ⊢; exact vPL_zero r _ h
theorem vP_zero {p : Patch} (h : (vP p).1 = 0) : vP p = (0, 0) := by
  unfold vP at h ⊢
  by_cases c : 30 < p.length
  · rw [if_pos c] at h; simp at h
  · rw [if_neg c] at h ⊢; exact vPL_zero _ _ h
theorem sec_fst {f : Int × Int} {i : Int} (hf : f.1 = 0 → f = (0, 0)) (h : (sec f i).1 = 0) : sec f i = (0, 0) := by
  unfold sec at h ⊢
  by_cases c : f = (0, 0)
  · rw [if_pos c]
  · rw [if_neg c] at h; exact absurd (hf h) c
theorem valL_zero {t : Tree} : ∀ (s : Tree) (i : Nat), (valL t i s).1 = 0 → valL t i s = (0, 0)
  | [], _, _ => rfl
  | a :: r, i, h => by
    rw [valL] at h ⊢
    split at h
    · simp at h
    rename_i c1
    rw [if_neg c1]
    split at h
    · simp at h
    rename_i c2
    rw [if_neg c2]
    split at h
    · simp at h
    rename_i c3
    rw [if_neg c3]
    split at h
    · rename_i c4
      rw [if_pos c4]; exact valL_zero r _ h
    · rename_i c4
      exact absurd (sec_fst (lin_zero _) h) c4
theorem val_zero {t : Tree} (h : (val t).1 = 0) : val t = (0, 0) := by
  unfold val at h ⊢
  by_cases c : 24 < t.length
  · rw [if_pos c] at h; simp at h
  · rw [if_neg c] at h ⊢; exact valL_zero _ _ h
theorem valL_inv {t : Tree} : ∀ (s : Tree) (i : Nat), valL t i s = (0, 0) → ∀ f, f ∈ s → f.1.size ≤ 60 ∧ f.2.length ≤ 120
  | [], _, _, f, hf => by cases hf
  | a :: r, i, h, f, hf => by
    rw [valL] at h
    split at h
    · simp at h
    rename_i c1
    split at h
    · simp at h
    split at h
    · simp at h
    split at h
    · rename_i c4
      rcases List.mem_cons.1 hf with rfl | hf
      · exact ⟨vp_size (by simpa using c1), lin_len (sec_zero (lin_zero _) c4)⟩
      · exact valL_inv r _ h f hf
    · rename_i c4
      exact absurd h c4
theorem val_inv {t : Tree} (h : val t = (0, 0)) : Inv t := by
  unfold val at h
  by_cases c : 24 < t.length
  · rw [if_pos c] at h; simp at h
  · rw [if_neg c] at h; exact ⟨by omega, valL_inv _ _ h⟩
def apL : Nat → Patch → Tree → Tree × Int × Int
  | _, [], t => (t, (0, 0))
  | i, c :: r, t => if (mk1 c t).1 ≠ 0 then ([], ((mk1 c t).1, i)) else apL (i + 1) r (mk1 c t).2
def ap (p : Patch) (t : Tree) : Tree × Int × Int :=
  if vP p ≠ (0, 0) then ([], vP p) else if sec (val t) (-2) ≠ (0, 0) then ([], sec (val t) (-2)) else apL 0 p t
theorem ap_loop {p : Patch} (hl : p.length ≤ 30) (hg : ∀ c, c ∈ p → Good c) {K : Tree → Int → Int → Prop} : ∀ (fu i : Nat) (t : Tree), i ≤ p.length → p.length - i < fu → Inv t → K (apL i (p.drop i) t).1 (apL i (p.drop i) t).2.1 (apL i (p.drop i) t).2.2 →
    L.b0_L1_R p (p.length : Int) fu i t (fun m => K m 0 0) (fun a b => K [] a b)
  | 0, i, _, _, h, _, _ => by omega
  | fu + 1, i, t, hi, h, ht, hK => by
    show L.b0_L1_b p _ i t _ _ _
    unfold L.b0_L1_b
    rcases Nat.lt_or_ge i p.length with g | g
    · rw [drop_cons noChg g, apL] at hK
      refine cond_t (by simp; omega) ⟨inB_of (by omega) (by omega), ?_⟩
      simp only [Int.toNat_natCast]
      have hgc := hg _ (getD_mem noChg g)
      refine mk1_ok (c := p.getD i noChg) hgc ht ?_
      by_cases c : (mk1 (p.getD i noChg) t).1 ≠ 0
      · rw [if_pos c] at hK; exact cond_t (by simpa using c) hK
      · rw [if_neg c] at hK
        refine cond_f (by simpa using c) ?_
        rw [i64_id (by omega) (by omega)]
        exact ap_loop hl hg fu (i + 1) _ (by omega) (by omega) (mk1_inv hgc ht) hK
    · rw [List.drop_eq_nil_of_le g] at hK
      exact cond_f (by simp; omega) hK
theorem ap_ok {p : Patch} {t : Tree} {K : Tree → Int → Int → Prop} (hK : K (ap p t).1 (ap p t).2.1 (ap p t).2.2) : L.b0 p t K := by
  refine ⟨vP_ok ?_⟩
  unfold ap at hK
  by_cases c1 : vP p ≠ (0, 0)
  · rw [if_pos c1] at hK; exact cond_t (fault1 (by exact c1)) ⟨hK, hK⟩
  rw [if_neg c1] at hK
  have c1' := Decidable.not_not.1 c1
  refine cond_f (fault0 (by exact c1')) (valS_ok ?_)
  by_cases c2 : sec (val t) (-2) ≠ (0, 0)
  · rw [if_pos c2] at hK; exact cond_t (fault1 (by exact c2)) ⟨hK, hK⟩
  rw [if_neg c2] at hK
  have c2' := Decidable.not_not.1 c2
  have hi := val_inv (sec_zero val_zero c2')
  obtain ⟨hl, hg⟩ := vP_good c1'
  exact cond_f (fault0 (by exact c2')) (copy_ok hi.1 (fun f hf => (hi.2 f hf).2) ⟨⟨p.length + 1, ap_loop hl hg _ 0 t (by omega) (by omega) hi hK⟩⟩)
theorem apL_zero : ∀ (p : Patch) (i : Nat) (t : Tree), (apL i p t).2.1 = 0 → (apL i p t).2 = (0, 0)
  | [], _, _, _ => rfl
  | a :: r, i, t, h => by
    rw [apL] at h ⊢
    by_cases c1 : (mk1 a t).1 ≠ 0
    · rw [if_pos c1] at h; exact absurd h c1
    · rw [if_neg c1] at h ⊢; exact apL_zero r _ _ h
theorem ap_zero {p : Patch} {t : Tree} (h : (ap p t).2.1 = 0) : (ap p t).2 = (0, 0) := by
  unfold ap at h ⊢
  by_cases c1 : vP p ≠ (0, 0)
  · rw [if_pos c1] at h; exact absurd (vP_zero h) c1
  rw [if_neg c1] at h ⊢
  by_cases c2 : sec (val t) (-2) ≠ (0, 0)
  · rw [if_pos c2] at h; exact absurd (sec_fst val_zero h) c2
  rw [if_neg c2] at h ⊢
  exact apL_zero _ _ _ h
end Tp
end Go.Proofs.YtkpplfghhciacaaDoor
set_option linter.unusedVariables false
set_option linter.unusedSimpArgs false
namespace Go.Proofs.YtkpplfghhciacaaDoor
open Eng
namespace Tp
def eqb (x y : ByteArray) : Bool := x.toList == y.toList
theorem eqb_refl (x : ByteArray) : eqb x x = true := by unfold eqb; simp
def lcs : Txt → Txt → Nat
  | [], _ => 0
  | _ :: _, [] => 0
  | x :: a, y :: b => if eqb x y = true then lcs a b + 1 else max (lcs a (y :: b)) (lcs (x :: a) b)
termination_by a b => a.length + b.length
theorem lcs_nil (a : Txt) : lcs a [] = 0 := by cases a <;> rw [lcs]
theorem nil_lcs (a : Txt) : lcs [] a = 0 := by rw [lcs]
theorem lcs_M (a b : Txt) : (∀ x, lcs a b ≤ lcs (x :: a) b ∧ lcs (x :: a) b ≤ lcs a b + 1) ∧ (∀ y, lcs a b ≤ lcs a (y :: b) ∧ lcs a (y :: b) ≤ lcs a b + 1) := by
  constructor
  · intro x
    match b with
    | [] => simp [lcs_nil]
    | y :: b =>
      have h := lcs_M a b
      have h1 := h.1 x
      have h2 := h.2 y
      by_cases e : eqb x y = true
      · rw [lcs.eq_3, if_pos e]; omega
      · rw [lcs.eq_3, if_neg e]; omega
  · intro y
    match a with
    | [] => simp [nil_lcs]
    | x :: a =>
      have h := lcs_M a b
      have h1 := h.1 x
      have h2 := h.2 y
      by_cases e : eqb x y = true
      · rw [lcs.eq_3, if_pos e]; omega
      · rw [lcs.eq_3, if_neg e]; omega
termination_by a.length + b.length
def far (a b : Txt) : Int := (a.length : Int) + b.length - 2 * (lcs a b : Nat)
theorem far_same (a b : Txt) : ∀ p : Txt, far (p ++ a) (p ++ b) = far a b
  | [] => rfl
  | x :: p => by
    rw [← far_same a b p]
    unfold far
    rw [List.cons_append, List.cons_append, lcs.eq_3, if_pos (eqb_refl x)]
    simp only [List.length_cons]
    omega
theorem far_self (a : Txt) : far a a = 0 := by
  have := far_same [] [] a
  rw [List.append_nil] at this
  rw [this]
  unfold far
  rw [nil_lcs]
  rfl
theorem lcs_left (a b : Txt) : ∀ o : Txt, lcs a b ≤ lcs (o ++ a) b
  | [] => Nat.le_refl _
  | x :: o => Nat.le_trans (lcs_left a b o) ((lcs_M (o ++ a) b).1 x).1
theorem lcs_right (a b : Txt) : ∀ o : Txt, lcs a b ≤ lcs a (o ++ b)
  | [] => Nat.le_refl _
  | x :: o => Nat.le_trans (lcs_right a b o) ((lcs_M a (o ++ b)).2 x).1
theorem far_diff (a b o n : Txt) : far (o ++ a) (n ++ b) ≤ o.length + n.length + far a b := by
  have h1 := lcs_left a b o
  have h2 := lcs_right (o ++ a) b n
  unfold far
  rw [List.length_append, List.length_append]
  omega
theorem raw_app {text : Txt} : ∀ (p : List Hunk) (low : Int) (out : Txt), rawL text low p out = out ++ rawL text low p []
  | [], low, out => by rw [rawL, rawL]; simp
  | h :: r, low, out => by
    rw [rawL, rawL, raw_app r _ (_ ++ _), raw_app r _ (([] ++ _) ++ _)]
    simp
theorem run_le {text : Txt} : ∀ {p : List Hunk} {low : Int}, Run text low p → 0 ≤ low ∧ low ≤ text.length
  | [], _, h => h
  | x :: p, low, h => by
    obtain ⟨h1, h2, h3, _⟩ := h
    exact ⟨h1, by omega⟩
def cst : List Hunk → Nat
  | [] => 0
  | h :: r => h.2.1.length + h.2.2.length + cst r
theorem raw_far {text : Txt} : ∀ (p : List Hunk) (low : Int), Run text low p → far (text.drop low.toNat) (rawL text low p []) ≤ (cst p : Nat)
  | [], low, h => by
    rw [rawL, List.nil_append, List.take_length, far_self, cst]
    exact Int.le_refl _
  | h :: r, low, hr => by
    obtain ⟨h1, h2, h3, h4, h5, h6, h7⟩ := hr
    have he := run_le h7
    have ih := raw_far r _ h7
    rw [rawL, raw_app, List.nil_append, cst]
    have e1 : text.drop low.toNat = (text.take h.1.toNat).drop low.toNat ++ ((text.take (h.1 + h.2.1.length).toNat).drop h.1.toNat ++ text.drop (h.1 + h.2.1.length).toNat) := by
      have a1 : text.drop low.toNat = (text.take h.1.toNat).drop low.toNat ++ text.drop h.1.toNat := by
        conv => lhs; rw [← List.take_append_drop h.1.toNat text]
        rw [List.drop_append_of_le_length (by rw [List.length_take]; omega)]
      have a2 : text.drop h.1.toNat = (text.take (h.1 + h.2.1.length).toNat).drop h.1.toNat ++ text.drop (h.1 + h.2.1.length).toNat := by
        conv => lhs; rw [← List.take_append_drop (h.1 + h.2.1.length).toNat text]
        rw [List.drop_append_of_le_length (by rw [List.length_take]; omega)]
      rw [a1, ← a2]
    have el : ((text.take (h.1 + h.2.1.length).toNat).drop h.1.toNat).length = h.2.1.length := by
      rw [List.length_drop, List.length_take]; omega
    rw [e1, List.append_assoc, far_same]
    refine Int.le_trans (far_diff _ _ _ _) ?_
    rw [el]
    omega
def lnOk (s : ByteArray) : Prop := s.size ≤ 80 ∧ La.idx_R s 10 < 0
theorem linL_iff : ∀ (l : Txt) (i : Nat), linL i l = (0, 0) ↔ ∀ s, s ∈ l → lnOk s
  | [], i => by simp [linL]
  | s :: l, i => by
    rw [linL]
    unfold lnOk
    by_cases c : 80 < s.size
    · rw [if_pos c]
      constructor
      · intro h; simp at h
      · intro h; have := (h s (by simp)).1; omega
    · rw [if_neg c]
      by_cases d : 0 ≤ La.idx_R s 10
      · rw [if_pos d]
        constructor
        · intro h; simp at h
        · intro h; have := (h s (by simp)).2; omega
      · rw [if_neg d, linL_iff l (i + 1)]
        constructor
        · intro h x hx
          rcases List.mem_cons.1 hx with rfl | hx
          · exact ⟨by omega, by omega⟩
          · exact h x hx
        · exact fun h x hx => h x (by simp [hx])
theorem lin_iff (l : Txt) : lin l = (0, 0) ↔ l.length ≤ 120 ∧ ∀ s, s ∈ l → lnOk s := by
  unfold lin
  by_cases c : 120 < l.length
  · rw [if_pos c]
    constructor
    · intro h; simp at h
    · intro h; omega
  · rw [if_neg c, linL_iff]
    exact ⟨fun h => ⟨by omega, h⟩, fun h => h.2⟩
theorem raw_lines {text : Txt} (ht : ∀ s, s ∈ text → lnOk s) : ∀ (p : List Hunk) (low : Int) (out : Txt), (∀ h, h ∈ p → ∀ s, s ∈ h.2.2 → lnOk s) → (∀ s, s ∈ out → lnOk s) → ∀ s, s ∈ rawL text low p out → lnOk s
  | [], low, out, hp, ho, s, hs => by
    rw [rawL] at hs
    rcases List.mem_append.1 hs with hs | hs
    · exact ho s hs
    · exact ht s (List.mem_of_mem_take (List.mem_of_mem_drop hs))
  | h :: r, low, out, hp, ho, s, hs => by
    rw [rawL] at hs
    refine raw_lines ht r _ _ (fun x hx => hp x (by simp [hx])) (fun s hs => ?_) s hs
    rcases List.mem_append.1 hs with hs | hs
    · rcases List.mem_append.1 hs with hs | hs
      · exact ho s hs
      · exact ht s (List.mem_of_mem_take (List.mem_of_mem_drop hs))
    · exact hp h (by simp) s hs
theorem hk_new {h : Hunk} {e : Int} (hz : hk h e = 0) : lin h.2.2 = (0, 0) := by
  unfold hk at hz
  by_cases c1 : h.1 < 0 ∨ 120 < h.1
  · rw [if_pos c1] at hz; omega
  · rw [if_neg c1] at hz
    by_cases c2 : lin h.2.1 ≠ (0, 0)
    · rw [if_pos c2] at hz
      exact absurd (lin_zero _ hz) c2
    · rw [if_neg c2] at hz
      by_cases c3 : lin h.2.2 ≠ (0, 0)
      · rw [if_pos c3] at hz
        exact absurd (lin_zero _ hz) c3
      · exact Classical.not_not.1 c3
theorem tpL_new : ∀ (p : List Hunk) (e : Int) (i : Nat), tpL e i p = (0, 0) → ∀ h, h ∈ p → lin h.2.2 = (0, 0)
  | [], e, i, hz, h, hm => by cases hm
  | a :: r, e, i, hz, h, hm => by
    rw [tpL] at hz
    by_cases c : hk a e ≠ 0
    · rw [if_pos c] at hz
      simp at hz
      exact absurd hz.1 c
    · rw [if_neg c] at hz
      rcases List.mem_cons.1 hm with rfl | hm
      · exact hk_new (Classical.not_not.1 c)
      · exact tpL_new r _ _ hz h hm
theorem tpV_new {p : List Hunk} (hz : tpV p = (0, 0)) : ∀ h, h ∈ p → lin h.2.2 = (0, 0) := by
  unfold tpV at hz
  by_cases c : 130 < p.length
  · rw [if_pos c] at hz; simp at hz
  · rw [if_neg c] at hz; exact tpL_new _ _ _ hz
theorem tpA_good {p : List Hunk} {t : Txt} (h : (tpA p t).2 = (0, 0)) : lin t = (0, 0) ∧ lin (tpA p t).1 = (0, 0) ∧ far t (tpA p t).1 ≤ (cst p : Nat) := by
  unfold tpA at h ⊢
  by_cases c1 : tpV p ≠ (0, 0)
  · rw [if_pos c1] at h; exact absurd h c1
  rw [if_neg c1] at h ⊢
  by_cases c2 : sec (lin t) (-2) ≠ (0, 0)
  · rw [if_pos c2] at h; exact absurd h c2
  rw [if_neg c2] at h ⊢
  by_cases c3 : ocL t 0 p ≠ (0, 0)
  · rw [if_pos c3] at h; exact absurd h c3
  rw [if_neg c3] at h ⊢
  by_cases c4 : 120 < (rawL t 0 p []).length
  · rw [if_pos c4] at h; simp at h
  rw [if_neg c4]
  have hv := Classical.not_not.1 c1
  have hl : lin t = (0, 0) := sec_zero (lin_zero t) (Classical.not_not.1 c2)
  have hr := run_of (text := t) (low := 0) (tpV_len hv).2 (Classical.not_not.1 c3) (by omega) (by omega) (by omega)
  refine ⟨hl, (lin_iff _).2 ⟨by show (rawL t 0 p []).length ≤ 120; omega, ?_⟩, raw_far p 0 hr⟩
  exact raw_lines ((lin_iff t).1 hl).2 p 0 [] (fun h hm => ((lin_iff _).1 (tpV_new hv h hm)).2) (fun s hs => by cases hs)
theorem tpL_zero : ∀ (p : List Hunk) (e : Int) (i : Nat), (tpL e i p).1 = 0 → tpL e i p = (0, 0)
  | [], e, i, h => rfl
  | a :: r, e, i, h => by
    rw [tpL] at h ⊢
    by_cases c : hk a e ≠ 0
    · rw [if_pos c] at h; exact absurd h c
    · rw [if_neg c] at h ⊢; exact tpL_zero r _ _ h
theorem ocL_zero {t : Txt} : ∀ (p : List Hunk) (i : Nat), (ocL t i p).1 = 0 → ocL t i p = (0, 0)
  | [], i, h => rfl
  | a :: r, i, h => by
    rw [ocL] at h ⊢
    by_cases c : oc t a.2.1 a.1 = false
    · rw [if_pos c] at h; simp at h
    · rw [if_neg c] at h ⊢; exact ocL_zero r _ h
theorem tpV_zero {p : List Hunk} (h : (tpV p).1 = 0) : tpV p = (0, 0) := by
  unfold tpV at h ⊢
  by_cases c : 130 < p.length
  · rw [if_pos c] at h; simp at h
  · rw [if_neg c] at h ⊢
    exact tpL_zero _ _ _ h
theorem tpA_zero {p : List Hunk} {t : Txt} (h : (tpA p t).2.1 = 0) : (tpA p t).2 = (0, 0) := by
  unfold tpA at h ⊢
  by_cases c1 : tpV p ≠ (0, 0)
  · rw [if_pos c1] at h ⊢
    exact tpV_zero h
  rw [if_neg c1] at h ⊢
  by_cases c2 : sec (lin t) (-2) ≠ (0, 0)
  · rw [if_pos c2] at h ⊢
    exact sec_fst (lin_zero t) h
  rw [if_neg c2] at h ⊢
  by_cases c3 : ocL t 0 p ≠ (0, 0)
  · rw [if_pos c3] at h ⊢
    exact ocL_zero _ _ h
  rw [if_neg c3] at h ⊢
  by_cases c4 : 120 < (rawL t 0 p []).length
  · rw [if_pos c4] at h; simp at h
  · rw [if_neg c4]
end Tp
end Go.Proofs.YtkpplfghhciacaaDoor
set_option linter.unusedVariables false
set_option linter.unusedSimpArgs false
namespace Go.Proofs.YtkpplfghhciacaaDoor
open Eng
namespace Tp
theorem idx_lt {i j n w : Nat} (hi : i ≤ n) (hj : j < w) : i * w + j < (n + 1) * w := by
  have := Nat.mul_le_mul_right w hi
  rw [Nat.add_mul]
  omega
theorem idx_inj {i j i' j' w : Nat} (hj : j < w) (hj' : j' < w) (h : i * w + j = i' * w + j') : i = i' ∧ j = j' := by
  have h1 : (i * w + j) / w = i := by rw [Nat.mul_comm, Nat.mul_add_div (by omega), Nat.div_eq_of_lt hj]; omega
  have h2 : (i' * w + j') / w = i' := by rw [Nat.mul_comm, Nat.mul_add_div (by omega), Nat.div_eq_of_lt hj']; omega
  have e : i = i' := by rw [← h1, h, h2]
  subst e
  exact ⟨rfl, by omega⟩
theorem mul_small {a b : Nat} (ha : a ≤ 121) (hb : b ≤ 121) : a * b ≤ 14641 := Nat.mul_le_mul ha hb
section
variable (a b : Txt)
structure Tab (P : Nat → Nat → Prop) (t : List Int) : Prop where
  len : t.length = (a.length + 1) * (b.length + 1)
  val : ∀ i j, i ≤ a.length → j ≤ b.length → P i j → t.getD (i * (b.length + 1) + j) 0 = (lcs (a.drop i) (b.drop j) : Nat)
end
variable {a b : Txt}
theorem idx_ok {i j : Nat} (ha : a.length ≤ 120) (hb : b.length ≤ 120) (hi : i ≤ a.length) (hj : j ≤ b.length) : i64 ((i64 ((i : Int) * ((b.length + 1 : Nat) : Int))) + (j : Int)) = ((i * (b.length + 1) + j : Nat) : Int) := by
  have h1 := mul_small (a := i) (b := b.length + 1) (by omega) (by omega)
  have e : (i : Int) * ((b.length + 1 : Nat) : Int) = ((i * (b.length + 1) : Nat) : Int) := by push_cast; rfl
  rw [e, i64_id (n := ((i * (b.length + 1) : Nat) : Int)) (by omega) (by omega), i64_id (by omega) (by omega)]
  omega
theorem at_ok {P : Nat → Nat → Prop} {t : List Int} (hT : Tab a b P t) (ha : a.length ≤ 120) (hb : b.length ≤ 120) {i j : Nat} (hi : i ≤ a.length) (hj : j ≤ b.length) (hP : P i j) {K : Int → Prop} (hK : K (lcs (a.drop i) (b.drop j) : Nat)) :
    L.d5 (i : Int) (j : Int) t ((b.length + 1 : Nat) : Int) K := by
  constructor
  unfold L.d5_B
  have hlt := idx_lt (w := b.length + 1) hi (show j < b.length + 1 by omega)
  rw [idx_ok ha hb hi hj, Int.toNat_natCast, hT.val i j hi hj hP]
  exact ⟨⟨by omega, by rw [hT.len]; omega⟩, hK⟩
def Dn (i0 jn : Nat) (m : Nat) (i j : Nat) : Prop := i0 < i ∨ (i = i0 ∧ jn ≤ j) ∨ j = m
theorem drop_get {l : Txt} {i : Nat} (h : i < l.length) : l.drop i = l.getD i ByteArray.empty :: l.drop (i + 1) := by
  rw [List.drop_eq_getElem_cons h, List.getD_eq_getElem?_getD, List.getElem?_eq_getElem h]
  rfl
theorem tab_set {t : List Int} {i jn : Nat} {v : Int} (hi : i < a.length) (hj : jn < b.length) (hT : Tab a b (Dn i (jn + 1) b.length) t) (hv : v = (lcs (a.drop i) (b.drop jn) : Nat)) : Tab a b (Dn i jn b.length) (t.set (i * (b.length + 1) + jn) v) where
  len := by rw [List.length_set]; exact hT.len
  val i' j' h1 h2 hP := by
    have hlt := idx_lt (w := b.length + 1) (n := a.length) (i := i) (j := jn) (by omega) (by omega)
    by_cases e : i' = i ∧ j' = jn
    · obtain ⟨rfl, rfl⟩ := e
      rw [List.getD_eq_getElem?_getD, List.getElem?_set_self (by rw [hT.len]; exact hlt)]
      exact hv
    · have hne : i * (b.length + 1) + jn ≠ i' * (b.length + 1) + j' := fun h => e (by obtain ⟨p, q⟩ := idx_inj (by omega) (by omega) h; exact ⟨p.symm, q.symm⟩)
      rw [List.getD_eq_getElem?_getD, List.getElem?_set_ne hne, ← List.getD_eq_getElem?_getD]
      refine hT.val i' j' h1 h2 ?_
      unfold Dn at hP ⊢
      omega
theorem inner_loop (ha : a.length ≤ 120) (hb : b.length ≤ 120) {i : Nat} (hi : i < a.length) {K : List Int → Prop} (hK : ∀ t, Tab a b (Dn i 0 b.length) t → K t) : ∀ (fu jn : Nat) (t : List Int), jn ≤ b.length → jn < fu → Tab a b (Dn i jn b.length) t →
    L.a1_L1_R a b (i : Int) ((b.length + 1 : Nat) : Int) fu ((jn : Int) - 1) t K
  | 0, jn, t, _, h, _ => by omega
  | fu + 1, 0, t, hj, h, hT => by
    show L.a1_L1_b _ _ _ _ _ _ _ _
    unfold L.a1_L1_b
    exact cond_f (by simp) (hK t hT)
  | fu + 1, jn + 1, t, hj, h, hT => by
    show L.a1_L1_b _ _ _ _ _ _ _ _
    unfold L.a1_L1_b
    have e0 : ((jn + 1 : Nat) : Int) - 1 = (jn : Int) := by omega
    rw [e0]
    have e1 : i64 ((i : Int) + 1) = ((i + 1 : Nat) : Int) := by rw [i64_id (by omega) (by omega)]; omega
    have e2 : i64 ((jn : Int) + 1) = ((jn + 1 : Nat) : Int) := by rw [i64_id (by omega) (by omega)]; omega
    have e3 : i64 ((jn : Int) - 1) = (jn : Int) - 1 := i64_id (by omega) (by omega)
    rw [e1, e2, e3]
    have hlt := idx_lt (w := b.length + 1) (n := a.length) (i := i) (j := jn) (by omega) (by omega)
    have bi : inB (i : Int) a.length := ⟨by omega, by omega⟩
    have bj : inB (jn : Int) b.length := ⟨by omega, by omega⟩
    refine cond_t (by simp) (at_ok hT ha hb (by omega) (by omega) (.inl (by omega)) (at_ok hT ha hb (by omega) hj (.inr (.inl ⟨rfl, Nat.le_refl _⟩)) ⟨bi, bj, ?_⟩))
    rw [idx_ok ha hb (by omega) (by omega)]
    simp only [Int.toNat_natCast]
    have bx : inB ((i * (b.length + 1) + jn : Nat) : Int) t.length := ⟨by omega, by rw [hT.len]; omega⟩
    have da := drop_get hi
    have db := drop_get (show jn < b.length by omega)
    have hle : lcs (a.drop (i + 1)) (b.drop (jn + 1)) ≤ 120 := by
      have : ∀ (n : Nat) (x y : Txt), x.length + y.length ≤ n → lcs x y ≤ x.length := by
        intro n
        induction n with
        | zero =>
          intro x y h
          obtain rfl := List.length_eq_zero_iff.1 (show x.length = 0 by omega)
          rw [nil_lcs]; omega
        | succ n ih =>
          intro x y h
          match x, y with
          | [], y => rw [nil_lcs]; omega
          | u :: x, [] => rw [lcs_nil]; omega
          | u :: x, v :: y =>
            simp only [List.length_cons] at h ⊢
            have h1 := ih x y (by omega)
            have h2 := ih x (v :: y) (by simp only [List.length_cons]; omega)
            have h3 := ih (u :: x) y (by simp only [List.length_cons]; omega)
            simp only [List.length_cons] at h3
            rw [lcs.eq_3]
            split <;> omega
      have := this _ (a.drop (i + 1)) (b.drop (jn + 1)) (Nat.le_refl _)
      rw [List.length_drop] at this
      omega
    by_cases he : eqb (a.getD i ByteArray.empty) (b.getD jn ByteArray.empty) = true
    · refine cond_t he (at_ok hT ha hb (by omega) hj (.inl (by omega)) ⟨bx, ?_⟩)
      have ev : i64 ((lcs (a.drop (i + 1)) (b.drop (jn + 1)) : Nat) + 1) = (lcs (a.drop i) (b.drop jn) : Nat) := by
        rw [da, db, lcs.eq_3, if_pos he, i64_id (by omega) (by omega)]
        omega
      rw [ev]
      exact inner_loop ha hb hi hK fu jn _ (by omega) (by omega) (tab_set hi (by omega) hT rfl)
    · refine cond_f (by simpa [eqb] using he) ⟨bx, ?_⟩
      have ev : amx (lcs (a.drop (i + 1)) (b.drop jn) : Nat) (lcs (a.drop i) (b.drop (jn + 1)) : Nat) = (lcs (a.drop i) (b.drop jn) : Nat) := by
        rw [da, db, lcs.eq_3, if_neg he, ← da, ← db]
        unfold amx
        split <;> omega
      rw [ev]
      exact inner_loop ha hb hi hK fu jn _ (by omega) (by omega) (tab_set hi (by omega) hT rfl)
theorem outer_loop (ha : a.length ≤ 120) (hb : b.length ≤ 120) {K : List Int → Prop} (hK : ∀ t, Tab a b (fun _ _ => True) t → K t) : ∀ (fu ni : Nat) (t : List Int), ni ≤ a.length → ni < fu → Tab a b (fun i j => ni ≤ i ∨ j = b.length) t →
    L.a1_L2_R a b ((b.length + 1 : Nat) : Int) fu ((ni : Int) - 1) t K
  | 0, ni, t, _, h, _ => by omega
  | fu + 1, 0, t, hn, h, hT => by
    show L.a1_L2_b _ _ _ _ _ _ _
    unfold L.a1_L2_b
    exact cond_f (by simp) (hK t ⟨hT.len, fun i j h1 h2 _ => hT.val i j h1 h2 (.inl (by omega))⟩)
  | fu + 1, ni + 1, t, hn, h, hT => by
    show L.a1_L2_b _ _ _ _ _ _ _
    unfold L.a1_L2_b
    have e0 : ((ni + 1 : Nat) : Int) - 1 = (ni : Int) := by omega
    have e3 : i64 ((ni : Int) - 1) = (ni : Int) - 1 := i64_id (by omega) (by omega)
    have e4 : i64 ((b.length : Int) - 1) = (b.length : Int) - 1 := i64_id (by omega) (by omega)
    rw [e0, e3, e4]
    refine cond_t (by simp) ⟨b.length + 1, inner_loop ha hb (by omega) (fun t' hT' => ?_) (b.length + 1) b.length t (Nat.le_refl _) (by omega) ⟨hT.len, fun i j h1 h2 hP => hT.val i j h1 h2 ?_⟩⟩
    · exact outer_loop ha hb hK fu ni t' (by omega) (by omega) ⟨hT'.len, fun i j h1 h2 hP => hT'.val i j h1 h2 (by unfold Dn; omega)⟩
    · unfold Dn at hP; omega
theorem lcs_dn {i j : Nat} (hi : i < a.length) (hj : j < b.length) : lcs (a.drop i) (b.drop j) = if eqb (a.getD i ByteArray.empty) (b.getD j ByteArray.empty) = true then lcs (a.drop (i + 1)) (b.drop (j + 1)) + 1 else max (lcs (a.drop (i + 1)) (b.drop j)) (lcs (a.drop i) (b.drop (j + 1))) := by
  rw [drop_get hi, drop_get hj, lcs.eq_3]
end Tp
end Go.Proofs.YtkpplfghhciacaaDoor
set_option linter.unusedVariables false
set_option linter.unusedSimpArgs false
namespace Go.Proofs.YtkpplfghhciacaaDoor
open Eng
namespace Tp
def aln : Txt → Txt → List Int
  | [], [] => []
  | [], _ :: b => 2 :: aln [] b
  | _ :: a, [] => 1 :: aln a []
  | x :: a, y :: b => if eqb x y = true then 0 :: aln a b else if lcs (x :: a) b ≤ lcs a (y :: b) then 1 :: aln a (y :: b) else 2 :: aln (x :: a) b
  termination_by a b => a.length + b.length
  decreasing_by all_goals (simp only [List.length_cons]; omega)
theorem aln_len (a b : Txt) : (aln a b).length ≤ a.length + b.length := by
  fun_induction aln a b <;> simp only [List.length_cons, List.length_nil] at * <;> omega
theorem aln_nil : aln [] [] = [] := by rw [aln]
theorem aln_ins (y : ByteArray) (b : Txt) : aln [] (y :: b) = 2 :: aln [] b := by rw [aln]
theorem aln_del (x : ByteArray) (a : Txt) : aln (x :: a) [] = 1 :: aln a [] := by rw [aln]
theorem aln_both (x y : ByteArray) (a b : Txt) : aln (x :: a) (y :: b) = if eqb x y = true then 0 :: aln a b else if lcs (x :: a) b ≤ lcs a (y :: b) then 1 :: aln a (y :: b) else 2 :: aln (x :: a) b := by rw [aln]
variable {a b : Txt}
theorem walk2 {t : List Int} (hT : Tab a b (fun _ _ => True) t) (ha : a.length ≤ 120) (hb : b.length ≤ 120) {K : List Int → Prop} : ∀ (fu i j : Nat) (out : List Int), i ≤ a.length → j ≤ b.length → a.length - i + (b.length - j) < fu → out.length ≤ i + j →
    K (out ++ aln (a.drop i) (b.drop j)) → L.a1_L3_R a b ((b.length + 1 : Nat) : Int) t fu (i : Int) (j : Int) out K
  | 0, i, j, out, _, _, h, _, _ => by omega
  | fu + 1, i, j, out, hi, hj, h, hl, hK => by
    show L.a1_L3_b _ _ _ _ _ _ _ _ _
    unfold L.a1_L3_b
    have e1 : i64 ((i : Int) + 1) = ((i + 1 : Nat) : Int) := by rw [i64_id (by omega) (by omega)]; omega
    have e2 : i64 ((j : Int) + 1) = ((j + 1 : Nat) : Int) := by rw [i64_id (by omega) (by omega)]; omega
    have f1 : ∀ x : Int, fits (out.length + ([x] : List Int).length) := fun x => by unfold fits; simp; omega
    rw [e1, e2]
    have del : ∀ v : Bool, v = true → i < a.length → aln (a.drop i) (b.drop j) = 1 :: aln (a.drop (i + 1)) (b.drop j) →
        L.a1_J1 (i : Int) (j : Int) v out (fun i j out => L.a1_L3_R a b ((b.length + 1 : Nat) : Int) t fu i j out K) := fun v hv hia hfar => by
      constructor
      unfold L.a1_J1_B
      rw [e1]
      refine cond_t hv ⟨f1 1, ?_⟩
      refine walk2 hT ha hb fu (i + 1) j _ hia hj (by omega) (by simp; omega) ?_
      rw [List.append_assoc, List.singleton_append, ← hfar]
      exact hK
    have ins : ∀ v : Bool, v = false → j < b.length → aln (a.drop i) (b.drop j) = 2 :: aln (a.drop i) (b.drop (j + 1)) →
        L.a1_J1 (i : Int) (j : Int) v out (fun i j out => L.a1_L3_R a b ((b.length + 1 : Nat) : Int) t fu i j out K) := fun v hv hjb hfar => by
      constructor
      unfold L.a1_J1_B
      rw [e2]
      refine cond_f hv ⟨f1 2, ?_⟩
      refine walk2 hT ha hb fu i (j + 1) _ hi hjb (by omega) (by simp; omega) ?_
      rw [List.append_assoc, List.singleton_append, ← hfar]
      exact hK
    have bi : i < a.length → inB (i : Int) a.length := fun g => ⟨by omega, by omega⟩
    have bj : j < b.length → inB (j : Int) b.length := fun g => ⟨by omega, by omega⟩
    have di : decide ((i : Int) < (a.length : Int)) = decide (i < a.length) := by apply decide_eq_decide.2; omega
    have dj : decide ((j : Int) < (b.length : Int)) = decide (j < b.length) := by apply decide_eq_decide.2; omega
    rw [di, dj]
    simp only [Int.toNat_natCast]
    by_cases gi : i < a.length
    · rw [decide_eq_true gi]
      by_cases gj : j < b.length
      · rw [decide_eq_true gj]
        have hal : aln (a.drop i) (b.drop j) = if eqb (a.getD i ByteArray.empty) (b.getD j ByteArray.empty) = true then 0 :: aln (a.drop (i + 1)) (b.drop (j + 1)) else if lcs (a.drop i) (b.drop (j + 1)) ≤ lcs (a.drop (i + 1)) (b.drop j) then 1 :: aln (a.drop (i + 1)) (b.drop j) else 2 :: aln (a.drop i) (b.drop (j + 1)) := by
          rw [drop_get gi, drop_get gj, aln_both]
        refine cond_t rfl ⟨fun _ => bi gi, fun _ => bj gj, ?_⟩
        by_cases hq : eqb (a.getD i ByteArray.empty) (b.getD j ByteArray.empty) = true
        · rw [if_pos hq] at hal
          refine cond_t hq ⟨f1 0, ?_⟩
          refine walk2 hT ha hb fu (i + 1) (j + 1) _ gi gj (by omega) (by simp; omega) ?_
          rw [List.append_assoc, List.singleton_append, ← hal]
          exact hK
        · rw [if_neg hq] at hal
          refine cond_f (by simpa [eqb] using hq) (cond_f (by simp; omega) (cond_t rfl ?_))
          refine at_ok hT ha hb gi hj trivial (at_ok hT ha hb hi gj trivial ?_)
          by_cases hge : lcs (a.drop i) (b.drop (j + 1)) ≤ lcs (a.drop (i + 1)) (b.drop j)
          · exact del _ (by simp; omega) gi (by rw [hal, if_pos hge])
          · exact ins _ (by simp; omega) gj (by rw [hal, if_neg hge])
      · rw [decide_eq_false gj]
        have ej : j = b.length := by omega
        have dn : b.drop j = [] := List.drop_eq_nil_of_le (by omega)
        refine cond_t rfl ⟨fun h => absurd h (by decide), fun h => absurd h (by decide), cond_f rfl (cond_t (by rw [beq_iff_eq, ej]) ?_)⟩
        refine del true rfl gi ?_
        rw [dn, drop_get gi, aln_del]
    · rw [decide_eq_false gi]
      have dn : a.drop i = [] := List.drop_eq_nil_of_le (by omega)
      by_cases gj : j < b.length
      · rw [decide_eq_true gj]
        refine cond_t rfl ⟨fun h => absurd h (by decide), fun h => absurd h (by decide), cond_f rfl (cond_f (by rw [beq_eq_false_iff_ne]; omega) (cond_f rfl ?_))⟩
        refine ins _ rfl gj ?_
        rw [dn, drop_get gj, aln_ins]
      · rw [decide_eq_false gj]
        have dn2 : b.drop j = [] := List.drop_eq_nil_of_le (by omega)
        rw [dn, dn2, aln_nil, List.append_nil] at hK
        exact cond_f rfl hK
theorem align_ok (ha : a.length ≤ 120) (hb : b.length ≤ 120) {K : List Int → Prop} (hK : K (aln a b)) : L.a1 a b K := by
  constructor
  unfold L.a1_B
  have hm := mul_small (a := a.length + 1) (b := b.length + 1) (by omega) (by omega)
  have e1 : i64 ((a.length : Int) + 1) = ((a.length + 1 : Nat) : Int) := by rw [i64_id (by omega) (by omega)]; omega
  have e2 : i64 ((b.length : Int) + 1) = ((b.length + 1 : Nat) : Int) := by rw [i64_id (by omega) (by omega)]; omega
  have e3 : i64 ((a.length : Int) - 1) = (a.length : Int) - 1 := i64_id (by omega) (by omega)
  have em : ((a.length + 1 : Nat) : Int) * ((b.length + 1 : Nat) : Int) = (((a.length + 1) * (b.length + 1) : Nat) : Int) := by push_cast; rfl
  rw [e1, e2, e3, em, i64_id (n := (((a.length + 1) * (b.length + 1) : Nat) : Int)) (by omega) (by omega), Int.toNat_natCast]
  refine ⟨⟨by omega, by omega, by omega⟩, ⟨a.length + 1, outer_loop ha hb (fun t hT => ?_) (a.length + 1) a.length _ (Nat.le_refl _) (by omega) ⟨List.length_replicate, fun i j h1 h2 hP => ?_⟩⟩⟩
  · exact ⟨a.length + b.length + 1, walk2 hT ha hb _ 0 0 [] (by omega) (by omega) (by omega) (by simp) (by simpa using hK)⟩
  · have hlt := idx_lt (w := b.length + 1) h1 (show j < b.length + 1 by omega)
    rw [List.getD_eq_getElem?_getD, List.getElem?_replicate_of_lt hlt]
    rcases hP with hP | hP
    · rw [List.drop_eq_nil_of_le hP, nil_lcs]; rfl
    · rw [hP, List.drop_length, lcs_nil]; rfl
end Tp
end Go.Proofs.YtkpplfghhciacaaDoor
set_option linter.unusedVariables false
set_option linter.unusedSimpArgs false
namespace Go.Proofs.YtkpplfghhciacaaDoor
open Eng
namespace Tp
theorem eqb_eq {x y : ByteArray} (h : eqb x y = true) : x = y := by
  unfold eqb at h
  have h2 := beq_iff_eq.1 h
  rw [ByteArray.toList_eq, ByteArray.toList_eq] at h2
  cases x; cases y
  simp only at h2
  rw [Array.toList_inj.1 h2]
inductive Al : List Int → Txt → Txt → Prop
  | nil : Al [] [] []
  | keep (x : ByteArray) {s : List Int} {a b : Txt} : Al s a b → Al (0 :: s) (x :: a) (x :: b)
  | del (x : ByteArray) {s : List Int} {a b : Txt} : Al s a b → Al (1 :: s) (x :: a) b
  | ins (y : ByteArray) {s : List Int} {a b : Txt} : Al s a b → Al (2 :: s) a (y :: b)
theorem aln_al (a b : Txt) : Al (aln a b) a b := by
  fun_induction aln a b with
  | case1 => exact .nil
  | case2 y b ih => exact .ins y ih
  | case3 x a ih => exact .del x ih
  | case4 x a y b h ih => obtain rfl := eqb_eq h; exact .keep x ih
  | case5 x a y b h h2 ih => exact .del x ih
  | case6 x a y b h h2 ih => exact .ins y ih
def delH (o : Option Hunk) (c : Nat) (x : ByteArray) : Hunk := match o with
  | some h => (h.1, (h.2.1 ++ [x], h.2.2))
  | none => ((c : Int), ([x], []))
def insH (o : Option Hunk) (c : Nat) (x : ByteArray) : Hunk := match o with
  | some h => (h.1, (h.2.1, h.2.2 ++ [x]))
  | none => ((c : Int), ([], [x]))
def scr : List Int → Txt → Txt → Nat → Option Hunk → List Hunk
  | [], _, _, _, o => o.toList
  | s :: r, a, b, c, o => if s = 0 then o.toList ++ scr r a.tail b.tail (c + 1) none
      else if s = 1 then scr r a.tail b (c + 1) (some (delH o c (a.headD ByteArray.empty)))
      else scr r a b.tail c (some (insH o c (b.headD ByteArray.empty)))
theorem scr_keep (r : List Int) (x y : ByteArray) (a b : Txt) (c : Nat) (o : Option Hunk) : scr (0 :: r) (x :: a) (y :: b) c o = o.toList ++ scr r a b (c + 1) none := rfl
theorem scr_del (r : List Int) (x : ByteArray) (a b : Txt) (c : Nat) (o : Option Hunk) : scr (1 :: r) (x :: a) b c o = scr r a b (c + 1) (some (delH o c x)) := rfl
theorem scr_ins (r : List Int) (y : ByteArray) (a b : Txt) (c : Nat) (o : Option Hunk) : scr (2 :: r) a (y :: b) c o = scr r a b c (some (insH o c y)) := rfl
def Opn (T : Txt) (c : Nat) (o : Hunk) : Prop := ∃ k : Nat, o.1 = k ∧ k + o.2.1.length = c ∧ (T.take c).drop k = o.2.1
theorem drop_succ {T a : Txt} {x : ByteArray} {c : Nat} (h : T.drop c = x :: a) : T.drop (c + 1) = a ∧ c < T.length ∧ T[c]? = some x := by
  have hl : c < T.length := by
    have := congrArg List.length h
    simp only [List.length_drop, List.length_cons] at this
    omega
  rw [List.drop_eq_getElem_cons hl] at h
  injection h with h1 h2
  exact ⟨h2, hl, by rw [List.getElem?_eq_getElem hl, h1]⟩
theorem take_snoc {T : Txt} {x : ByteArray} {c : Nat} (h : T[c]? = some x) : T.take (c + 1) = T.take c ++ [x] := by
  rw [List.take_add_one, h]; rfl
theorem mid_snoc {T : Txt} {x : ByteArray} {c k : Nat} (h : T[c]? = some x) (hk : k ≤ c) : (T.take (c + 1)).drop k = (T.take c).drop k ++ [x] := by
  have hl := (List.getElem?_eq_some_iff.1 h).1
  rw [take_snoc h, List.drop_append_of_le_length (by rw [List.length_take]; omega)]
theorem Opn.del {T : Txt} {c : Nat} {o : Hunk} {x : ByteArray} (h : Opn T c o) (hx : T[c]? = some x) : Opn T (c + 1) (delH (some o) c x) := by
  obtain ⟨k, h1, h2, h3⟩ := h
  refine ⟨k, h1, ?_, ?_⟩
  · show k + (o.2.1 ++ [x]).length = c + 1
    rw [List.length_append]; simp; omega
  · rw [mid_snoc hx (by omega), h3]; rfl
theorem Opn.new {T : Txt} {c : Nat} {x : ByteArray} (hx : T[c]? = some x) : Opn T (c + 1) (delH none c x) := by
  have hl := (List.getElem?_eq_some_iff.1 hx).1
  refine ⟨c, rfl, rfl, ?_⟩
  rw [mid_snoc hx (Nat.le_refl _), List.drop_eq_nil_of_le (by rw [List.length_take]; omega)]
  rfl
theorem Opn.ins {T : Txt} {c : Nat} {o : Hunk} {y : ByteArray} (h : Opn T c o) : Opn T c (insH (some o) c y) := h
theorem Opn.ins0 {T : Txt} {c : Nat} {y : ByteArray} : Opn T c (insH none c y) := ⟨c, rfl, rfl, by rw [List.drop_eq_nil_of_le (by rw [List.length_take]; omega)]; rfl⟩
theorem scr_raw (T : Txt) {st : List Int} {a b : Txt} (h : Al st a b) : ∀ (c : Nat), T.drop c = a → c ≤ T.length →
    (∀ (low : Nat) (out : Txt), low ≤ c → rawL T low (scr st a b c none) out = out ++ (T.take c).drop low ++ b) ∧
    (∀ (low : Nat) (out : Txt) (o : Hunk), Opn T c o → (low : Int) ≤ o.1 → rawL T low (scr st a b c (some o)) out = out ++ (T.take o.1.toNat).drop low ++ o.2.2 ++ b) := by
  induction h with
  | nil =>
    intro c hc hl
    have hT : T.length ≤ c := by
      have := congrArg List.length hc
      simp only [List.length_drop, List.length_nil] at this
      omega
    obtain rfl : c = T.length := by omega
    refine ⟨fun low out hlow => ?_, fun low out o ho hlow => ?_⟩
    · show out ++ (T.take T.length).drop ((low : Int)).toNat = _
      rw [Int.toNat_natCast, List.append_nil]
    · show rawL T (low : Int) [o] out = _
      obtain ⟨k, h1, h2, h3⟩ := ho
      rw [rawL, rawL, h1, Int.toNat_natCast, Int.toNat_natCast]
      have : ((k : Int) + (o.2.1.length : Int)).toNat = T.length := by omega
      rw [this, List.take_length, List.drop_length]
      try simp
  | keep x h ih =>
    intro c hc hl
    obtain ⟨d1, d2, d3⟩ := drop_succ hc
    obtain ⟨i1, i2⟩ := ih (c + 1) d1 d2
    refine ⟨fun low out hlow => ?_, fun low out o ho hlow => ?_⟩
    · rw [scr_keep]
      show rawL T low (scr _ _ _ _ none) out = _
      rw [i1 low out (by omega), mid_snoc d3 hlow]
      simp
    · rw [scr_keep]
      show rawL T low (o :: scr _ _ _ _ none) out = _
      obtain ⟨k, h1, h2, h3⟩ := ho
      rw [rawL, h1]
      have : ((k : Int) + (o.2.1.length : Int)) = (c : Nat) := by omega
      rw [this, i1 c _ (by omega), mid_snoc d3 (Nat.le_refl _), show (T.take c).drop c = [] from List.drop_eq_nil_of_le (by rw [List.length_take]; omega)]
      simp
  | del x h ih =>
    intro c hc hl
    obtain ⟨d1, d2, d3⟩ := drop_succ hc
    obtain ⟨i1, i2⟩ := ih (c + 1) d1 d2
    refine ⟨fun low out hlow => ?_, fun low out o ho hlow => ?_⟩
    · rw [scr_del, i2 low out _ (Opn.new d3) (by show (low : Int) ≤ (c : Int); omega)]
      show out ++ (T.take ((c : Int)).toNat).drop low ++ [] ++ _ = _
      rw [Int.toNat_natCast, List.append_nil]
    · rw [scr_del, i2 low out _ (ho.del d3) hlow]
      rfl
  | ins y h ih =>
    intro c hc hl
    obtain ⟨i1, i2⟩ := ih c hc hl
    refine ⟨fun low out hlow => ?_, fun low out o ho hlow => ?_⟩
    · rw [scr_ins, i2 low out _ Opn.ins0 (by show (low : Int) ≤ (c : Int); omega)]
      show out ++ (T.take ((c : Int)).toNat).drop low ++ [y] ++ _ = _
      rw [Int.toNat_natCast]
      simp
    · rw [scr_ins, i2 low out _ ho.ins hlow]
      show out ++ (T.take o.1.toNat).drop low ++ (o.2.2 ++ [y]) ++ _ = _
      simp [insH]
end Tp
end Go.Proofs.YtkpplfghhciacaaDoor
set_option linter.unusedVariables false
set_option linter.unusedSimpArgs false
namespace Go.Proofs.YtkpplfghhciacaaDoor
open Eng
namespace Tp
theorem pfind_pput (x : Nat) (f : List ByteArray → List ByteArray) : ∀ (m : Pool) (b : Nat), pfind (pput m x f) b = if x = b then (pfind m x).map (fun r => (f r.1, r.2)) else pfind m b
  | [], b => by simp [pput, pfind]
  | (c, r) :: m, b => by
    have ih := pfind_pput x f m b
    simp only [pput]
    by_cases h : c = x
    · subst h
      rw [if_pos rfl]
      simp only [pfind, if_true]
      by_cases hb : c = b
      · simp [hb]
      · simp [hb]
    · rw [if_neg h]
      simp only [pfind, if_neg h]
      rw [ih]
      by_cases hb : x = b
      · subst hb
        simp [h]
      · simp only [if_neg hb]
def Lies (m : Pool) (h : Hd) (xs : List ByteArray) : Prop :=
  h.n = xs.length ∧ h.n ≤ h.c ∧ (h.c = 0 ∨ ∃ b ys cap, h.a = some ⟨b, 0, none⟩ ∧ pfind m b = some (xs ++ ys, cap) ∧ h.c ≤ cap)
def blk (h : Hd) : Option Nat := if h.c = 0 then none else h.a.map (·.block)
theorem Lies.ok {m : Pool} {h : Hd} {xs : List ByteArray} (hl : Lies m h xs) : h.ok m := by
  obtain ⟨h1, h2, h3 | ⟨b, ys, cap, h3, h4, h5⟩⟩ := hl
  · exact ⟨h2, .inl h3⟩
  · refine ⟨h2, .inr ⟨b, 0, _, h3, h4, ?_, ?_⟩⟩
    · simp [h1]
    · simpa using h5
theorem Lies.get {m : Pool} {h : Hd} {xs : List ByteArray} (hl : Lies m h xs) : h.get m = xs := by
  obtain ⟨h1, h2, h3 | ⟨b, ys, cap, h3, h4, h5⟩⟩ := hl
  · have h0 : h.n = 0 := by omega
    have hx : xs = [] := List.length_eq_zero_iff.1 (by omega)
    subst hx
    unfold Hd.get
    rw [h0]
    cases h.a <;> simp
  · simp only [Hd.get, h3, prow, h4, List.drop_zero, h1, List.take_left']
theorem Lies.nil (m : Pool) : Lies m Hd.nil [] := ⟨rfl, Nat.le_refl _, .inl rfl⟩
def Keeps (h : Hd) (m m' : Pool) : Prop := ∀ b, blk h ≠ some b → ∀ r, pfind m b = some r → pfind m' b = some r
theorem Keeps.refl (h : Hd) (m : Pool) : Keeps h m m := fun _ _ _ e => e
theorem Keeps.trans {h : Hd} {m m' m'' : Pool} (h1 : Keeps h m m') (h2 : Keeps h m' m'') : Keeps h m m'' := fun b hb r e => h2 b hb r (h1 b hb r e)
theorem Lies.other {m m' : Pool} {h g : Hd} {xs : List ByteArray} (hl : Lies m g xs) (hk : Keeps h m m') (hd : ∀ b, blk h = some b → blk g ≠ some b) : Lies m' g xs := by
  obtain ⟨h1, h2, h3⟩ := hl
  refine ⟨h1, h2, ?_⟩
  by_cases h0 : g.c = 0
  · exact .inl h0
  · obtain h3 | ⟨b, ys, cap, h3, h4, h5⟩ := h3
    · exact .inl h3
    · refine .inr ⟨b, ys, cap, h3, hk b (fun e => ?_) _ h4, h5⟩
      exact hd b e (by simp [blk, h0, h3])
theorem Lies.more {m : Pool} {h : Hd} {xs : List ByteArray} (hl : Lies m h xs) (x : ByteArray) (hc : h.n + 1 ≤ h.c) :
    Lies (pwr m h.a h.n [x]) ⟨h.a, h.n + 1, h.c⟩ (xs ++ [x]) ∧ Keeps h m (pwr m h.a h.n [x]) := by
  obtain ⟨h1, h2, h3 | ⟨b, ys, cap, h3, h4, h5⟩⟩ := hl
  · omega
  · rw [h3]
    simp only [pwr, Nat.zero_add]
    refine ⟨⟨by simp [h1], hc, .inr ⟨b, ys.drop 1, cap, rfl, ?_, h5⟩⟩, fun b' hb' r e => ?_⟩
    · rw [pfind_pput, if_pos rfl, h4]
      simp only [Option.map_some, Option.some.injEq, Prod.mk.injEq, and_true]
      rw [h1, List.take_left' rfl, List.drop_append]
      simp
    · rw [pfind_pput, if_neg]
      · exact e
      · rintro rfl
        exact hb' (by simp [blk, h3, show h.c ≠ 0 from by omega])
theorem Lies.moved {m : Pool} {h : Hd} {xs : List ByteArray} (hl : Lies m h xs) (x : ByteArray) {b cap : Nat} (hb : pfind m b = none) (hc : h.n + 1 ≤ cap) :
    Lies ((b, (h.get m ++ [x], cap)) :: m) ⟨some ⟨b, 0, none⟩, h.n + 1, cap⟩ (xs ++ [x]) ∧ Keeps h m ((b, (h.get m ++ [x], cap)) :: m) := by
  refine ⟨⟨by simp [hl.1], hc, .inr ⟨b, [], cap, rfl, by simp [pfind, hl.get], Nat.le_refl _⟩⟩, fun b' _ r e => ?_⟩
  simp only [pfind]
  rw [if_neg]
  · exact e
  · rintro rfl
    rw [hb] at e
    cases e
abbrev Hr := Int × (Hd × Hd)
abbrev noHr : Hr := (0, (Hd.nil, Hd.nil))
def hdr (hs : List Hr) (q : Nat × Bool) : Hd := bif q.2 then (hs.getD q.1 noHr).2.1 else (hs.getD q.1 noHr).2.2
def txr (a : List Hunk) (q : Nat × Bool) : Txt := bif q.2 then (a.getD q.1 noHunk).2.1 else (a.getD q.1 noHunk).2.2
structure Lay (m : Pool) (hs : List Hr) (a : List Hunk) : Prop where
  len : hs.length = a.length
  num : ∀ i, i < a.length → (hs.getD i noHr).1 = (a.getD i noHunk).1
  row : ∀ q : Nat × Bool, q.1 < a.length → Lies m (hdr hs q) (txr a q)
  apart : ∀ q r : Nat × Bool, q.1 < a.length → r.1 < a.length → q ≠ r → ∀ b, blk (hdr hs q) = some b → blk (hdr hs r) ≠ some b
theorem Lay.emp (m : Pool) : Lay m [] [] where
  len := rfl
  num i h := absurd h (Nat.not_lt_zero _)
  row q h := absurd h (Nat.not_lt_zero _)
  apart q _ h := absurd h (Nat.not_lt_zero _)
theorem getD_left {α : Type} {l m : List α} {i : Nat} (d : α) (h : i < l.length) : (l ++ m).getD i d = l.getD i d := by simp [List.getD, List.getElem?_append_left h]
theorem getD_last {α : Type} {l : List α} {x : α} (d : α) : (l ++ [x]).getD l.length d = x := by simp [List.getD]
theorem Lay.push {m : Pool} {hs : List Hr} {a : List Hunk} (h : Lay m hs a) (c : Int) : Lay m (hs ++ [(c, (Hd.nil, Hd.nil))]) (a ++ [(c, ([], []))]) := by
  have hn : ∀ q : Nat × Bool, q.1 < a.length + 1 → ¬ q.1 < a.length → hdr (hs ++ [(c, (Hd.nil, Hd.nil))]) q = Hd.nil ∧ txr (a ++ [(c, ([], []))]) q = [] := by
    intro q h1 h2
    have e : q.1 = a.length := by omega
    unfold hdr txr
    rw [e, getD_last]
    rw [← h.len, getD_last]
    cases q.2 <;> exact ⟨rfl, rfl⟩
  have ho : ∀ q : Nat × Bool, q.1 < a.length → hdr (hs ++ [(c, (Hd.nil, Hd.nil))]) q = hdr hs q ∧ txr (a ++ [(c, ([], []))]) q = txr a q := by
    intro q h1
    unfold hdr txr
    rw [getD_left _ h1, getD_left _ (by rw [h.len]; exact h1)]
    exact ⟨rfl, rfl⟩
  refine ⟨by simp [h.len], fun i hi => ?_, fun q hq => ?_, fun q r hq hr hne b hb hb2 => ?_⟩
  · rw [List.length_append, List.length_singleton] at hi
    by_cases hlt : i < a.length
    · rw [getD_left _ hlt, getD_left _ (by rw [h.len]; exact hlt)]; exact h.num i hlt
    · have e : i = a.length := by omega
      subst e
      rw [getD_last, ← h.len, getD_last]
  · rw [List.length_append, List.length_singleton] at hq
    by_cases hlt : q.1 < a.length
    · rw [(ho q hlt).1, (ho q hlt).2]; exact h.row q hlt
    · rw [(hn q hq hlt).1, (hn q hq hlt).2]; exact Lies.nil m
  · rw [List.length_append, List.length_singleton] at hq hr
    by_cases h1 : q.1 < a.length
    · by_cases h2 : r.1 < a.length
      · rw [(ho q h1).1] at hb; rw [(ho r h2).1] at hb2; exact h.apart q r h1 h2 hne b hb hb2
      · rw [(hn r hr h2).1] at hb2; cases hb2
    · rw [(hn q hq h1).1] at hb; cases hb
theorem lies_no {m : Pool} {h : Hd} {xs : Txt} (hl : Lies m h xs) {b : Nat} (hb : pfind m b = none) : blk h ≠ some b := by
  obtain ⟨_, _, h3 | ⟨b2, ys, cap, h3, h4, _⟩⟩ := hl
  · simp only [blk, if_pos h3]; exact fun e => by cases e
  · simp only [blk, h3]
    split
    · exact fun e => by cases e
    · intro e
      simp only [Option.map_some, Option.some.injEq] at e
      subst e
      rw [hb] at h4
      cases h4
theorem Lay.upd {m m' : Pool} {hs : List Hr} {a : List Hunk} (hS : Lay m hs a) {q : Nat × Bool} (hq : q.1 < a.length) {h' : Hd} {xs' : Txt} {hs' : List Hr} {a' : List Hunk} (ea : a'.length = a.length) (es : hs'.length = hs.length)
    (en : ∀ i, i < a.length → (hs'.getD i noHr).1 = (hs.getD i noHr).1 ∧ (a'.getD i noHunk).1 = (a.getD i noHunk).1)
    (e1 : hdr hs' q = h') (e2 : txr a' q = xs') (e3 : ∀ r : Nat × Bool, r.1 < a.length → q ≠ r → hdr hs' r = hdr hs r ∧ txr a' r = txr a r)
    (h1 : Lies m' h' xs') (hb : blk h' = blk (hdr hs q) ∨ ∀ b, blk h' = some b → pfind m b = none) (hk : Keeps (hdr hs q) m m') : Lay m' hs' a' := by
  have far : ∀ r : Nat × Bool, r.1 < a.length → q ≠ r → ∀ b, blk h' = some b → blk (hdr hs r) ≠ some b := by
    intro r hr hij b hb'
    rcases hb with e | e
    · exact hS.apart q r hq hr hij b (e ▸ hb')
    · exact lies_no (hS.row r hr) (e b hb')
  refine ⟨by rw [ea, es, hS.len], fun i hi => ?_, fun r hr => ?_, fun r s hr hs2 hne b => ?_⟩
  · rw [ea] at hi
    rw [(en i hi).1, (en i hi).2]; exact hS.num i hi
  · rw [ea] at hr
    by_cases hij : q = r
    · subst hij; rw [e1, e2]; exact h1
    · rw [(e3 r hr hij).1, (e3 r hr hij).2]
      exact (hS.row r hr).other hk (hS.apart q r hq hr hij)
  · rw [ea] at hr hs2
    by_cases h2 : q = r
    · subst h2
      rw [e1, (e3 s hs2 hne).1]
      exact far s hs2 hne b
    · by_cases h3 : q = s
      · subst h3
        rw [e1, (e3 r hr h2).1]
        exact fun e e2 => far r hr h2 b e2 e
      · rw [(e3 r hr h2).1, (e3 s hs2 h3).1]
        exact hS.apart r s hr hs2 hne b
theorem getD_set_same {α} (l : List α) (i : Nat) (x d : α) (h : i < l.length) : (l.set i x).getD i d = x := by simp [List.getD, h]
theorem getD_set_other {α} (l : List α) (i j : Nat) (x d : α) (h : i ≠ j) : (l.set i x).getD j d = l.getD j d := by simp [List.getD, h]
theorem Lay.old {m m' : Pool} {hs : List Hr} {D : List Hunk} {o : Hunk} (hS : Lay m hs (D ++ [o])) {h' : Hd} {xs' : Txt}
    (h1 : Lies m' h' xs') (hb : blk h' = blk (hs.getD D.length noHr).2.1 ∨ ∀ b, blk h' = some b → pfind m b = none) (hk : Keeps (hs.getD D.length noHr).2.1 m m') :
    Lay m' (hs.set D.length ((hs.getD D.length noHr).1, (h', (hs.getD D.length noHr).2.2))) (D ++ [(o.1, (xs', o.2.2))]) := by
  have hl : D.length < hs.length := by rw [hS.len]; simp
  refine hS.upd (q := (D.length, true)) (by simp) (h' := h') (xs' := xs') (by simp) (by simp) (fun i hi => ?_) ?_ ?_ (fun r hr hne => ?_) h1 hb hk
  · by_cases e : D.length = i
    · subst e; rw [getD_set_same _ _ _ _ hl, getD_last, getD_last]; exact ⟨rfl, rfl⟩
    · rw [getD_set_other _ _ _ _ _ e]
      have : i < D.length := by simp at hi; omega
      rw [getD_left _ this, getD_left _ this]; exact ⟨rfl, rfl⟩
  · show (List.getD _ _ noHr).2.1 = _
    rw [getD_set_same _ _ _ _ hl]
  · show (List.getD _ _ noHunk).2.1 = _
    rw [getD_last]
  · obtain ⟨i, s⟩ := r
    by_cases e : D.length = i
    · subst e
      cases s
      · show (List.getD _ _ noHr).2.2 = _ ∧ (List.getD _ _ noHunk).2.2 = (List.getD _ _ noHunk).2.2
        rw [getD_set_same _ _ _ _ hl, getD_last, getD_last]; exact ⟨rfl, rfl⟩
      · exact absurd rfl hne
    · have : i < D.length := by simp at hr; omega
      unfold hdr txr
      dsimp only
      rw [getD_set_other _ _ _ _ _ e, getD_left _ this, getD_left _ this]; exact ⟨rfl, rfl⟩
theorem Lay.new {m m' : Pool} {hs : List Hr} {D : List Hunk} {o : Hunk} (hS : Lay m hs (D ++ [o])) {h' : Hd} {xs' : Txt}
    (h1 : Lies m' h' xs') (hb : blk h' = blk (hs.getD D.length noHr).2.2 ∨ ∀ b, blk h' = some b → pfind m b = none) (hk : Keeps (hs.getD D.length noHr).2.2 m m') :
    Lay m' (hs.set D.length ((hs.getD D.length noHr).1, ((hs.getD D.length noHr).2.1, h'))) (D ++ [(o.1, (o.2.1, xs'))]) := by
  have hl : D.length < hs.length := by rw [hS.len]; simp
  refine hS.upd (q := (D.length, false)) (by simp) (h' := h') (xs' := xs') (by simp) (by simp) (fun i hi => ?_) ?_ ?_ (fun r hr hne => ?_) h1 hb hk
  · by_cases e : D.length = i
    · subst e; rw [getD_set_same _ _ _ _ hl, getD_last, getD_last]; exact ⟨rfl, rfl⟩
    · rw [getD_set_other _ _ _ _ _ e]
      have : i < D.length := by simp at hi; omega
      rw [getD_left _ this, getD_left _ this]; exact ⟨rfl, rfl⟩
  · show (List.getD _ _ noHr).2.2 = _
    rw [getD_set_same _ _ _ _ hl]
  · show (List.getD _ _ noHunk).2.2 = _
    rw [getD_last]
  · obtain ⟨i, s⟩ := r
    by_cases e : D.length = i
    · subst e
      cases s
      · exact absurd rfl hne
      · show (List.getD _ _ noHr).2.1 = _ ∧ (List.getD _ _ noHunk).2.1 = (List.getD _ _ noHunk).2.1
        rw [getD_set_same _ _ _ _ hl, getD_last, getD_last]; exact ⟨rfl, rfl⟩
    · have : i < D.length := by simp at hr; omega
      unfold hdr txr
      dsimp only
      rw [getD_set_other _ _ _ _ _ e, getD_left _ this, getD_left _ this]; exact ⟨rfl, rfl⟩
abbrev TT : Ty := .pair (.int .i64) (.pair .hnd .hnd)
theorem getD_get {α} (l : List α) (i : Nat) (d : α) (h : i < l.length) : l.getD i d = l[i] := by simp [List.getD, h]
theorem Lay.oks {m : Pool} {hs : List Hr} {a : List Hunk} (hS : Lay m hs a) (x : Hr) (hx : x ∈ hs) : x.2.1.ok m ∧ x.2.2.ok m := by
  obtain ⟨i, hi, rfl⟩ := List.getElem_of_mem hx
  have hi' : i < a.length := by rw [← hS.len]; exact hi
  have h1 := (hS.row (i, true) hi').ok
  have h2 := (hS.row (i, false) hi').ok
  simp only [hdr, cond_true, cond_false] at h1 h2
  rw [getD_get _ _ _ hi] at h1 h2
  exact ⟨h1, h2⟩
theorem Lay.okRows {m : Pool} {hs : List Hr} {a : List Hunk} (hS : Lay m hs a) : okRows m TT hs := fun x hx => ⟨trivial, (hS.oks x hx).1, (hS.oks x hx).2⟩
theorem Lay.gets {m : Pool} {hs : List Hr} {a : List Hunk} (hS : Lay m hs a) : (hs.map fun x : Hr => ((x.1, (x.2.1.get m, x.2.2.get m)) : Hunk)) = a := by
  apply List.ext_getElem
  · simp [hS.len]
  · intro i h1 h2
    have h3 : i < hs.length := by simpa using h1
    have g1 := (hS.row (i, true) h2).get
    have g2 := (hS.row (i, false) h2).get
    have g0 := hS.num i h2
    simp only [hdr, txr, cond_true, cond_false] at g1 g2
    rw [getD_get _ _ _ h3, getD_get _ _ _ h2] at g0 g1 g2
    simp only [List.getElem_map]
    rw [g0, g1, g2]
theorem Lay.fz {m : Pool} {hs : List Hr} {a : List Hunk} (hS : Lay m hs a) : (List.map (fz m TT) hs : List (Int × (List ByteArray × List ByteArray))) = a := hS.gets
end Tp
end Go.Proofs.YtkpplfghhciacaaDoor
set_option linter.unusedVariables false
set_option linter.unusedSimpArgs false
namespace Go.Proofs.YtkpplfghhciacaaDoor
open Eng Bb
namespace Tp
theorem lastN {hs : List Hr} {D : List Hunk} {o : Hunk} (h : hs.length = (D ++ [o]).length) (hb : D.length ≤ 1000) : (i64 ((hs.length : Int) - 1)).toNat = D.length ∧ inB (i64 ((hs.length : Int) - 1)) hs.length := by
  have : hs.length = D.length + 1 := by rw [h]; simp
  rw [this, i64_id (by omega) (by omega)]
  unfold inB
  omega
theorem hunk_ok {m : Pool} {c : Int} {hs : List Hr} {D : List Hunk} {o : Option Hunk} (hS : Lay m hs (D ++ o.toList)) (hb : D.length ≤ 900) {K : Nat → Pool → Int → Bool → List Hr → Prop}
    (hK : ∀ hs', Lay m hs' (D ++ [o.getD (c, ([], []))]) → K D.length m c true hs') : L.c3 m c o.isSome hs K := by
  constructor
  unfold L.c3_B
  cases o with
  | some o =>
    refine cond_f rfl ⟨?_⟩
    unfold L.c3_J1_B
    obtain ⟨e1, e2⟩ := lastN hS.len (by omega)
    rw [e1]
    exact ⟨e2, hK hs hS⟩
  | none =>
    have hS' : Lay m hs D := by have := hS; rw [Option.toList_none, List.append_nil] at this; exact this
    have hp := hS'.push c
    have hl : hs.length = D.length := hS'.len
    have fit : fits (hs.length + ([(c, (Hd.nil, Hd.nil))] : List (Int × (Hd × Hd))).length) := by unfold fits; simp; omega
    have key : L.c3_J1 true (hs ++ ([(c, (Hd.nil, Hd.nil))] : List (Int × (Hd × Hd)))) (fun r c2 m_ => K r m c c2 m_) := by
      constructor
      unfold L.c3_J1_B
      obtain ⟨e1, e2⟩ := lastN hp.len (by omega)
      rw [e1]
      exact ⟨e2, hK _ hp⟩
    exact cond_t rfl ⟨⟨fit, key⟩, fit, key⟩
theorem del_ok {x : ByteArray} {m : Pool} {c : Nat} {hs : List Hr} {D : List Hunk} {o : Option Hunk} (hS : Lay m hs (D ++ o.toList)) (hb : D.length ≤ 900) (hc : c ≤ 900) (ho : ∀ h, o = some h → h.2.1.length ≤ 900) {K : Pool → Int → Bool → List Hr → Prop}
    (hK : ∀ m' hs', Lay m' hs' (D ++ [delH o c x]) → K m' ((c + 1 : Nat) : Int) true hs') : L.d0 x m c o.isSome hs K := by
  constructor
  unfold L.d0_B
  refine hunk_ok hS hb fun hs' hS' => ?_
  have hrow := hS'.row (D.length, true) (by simp)
  have e0 : txr (D ++ [o.getD ((c : Int), ([], []))]) (D.length, true) = (o.getD ((c : Int), ([], []))).2.1 := by
    show (List.getD _ _ noHunk).2.1 = _
    rw [getD_last]
  have e1 : hdr hs' (D.length, true) = (hs'.getD D.length noHr).2.1 := rfl
  rw [e0, e1] at hrow
  have hlen : (o.getD ((c : Int), ([], []))).2.1.length ≤ 900 := by
    cases o with
    | some h => exact ho h rfl
    | none => exact Nat.zero_le _
  have ed : delH o c x = ((o.getD ((c : Int), ([], []))).1, ((o.getD ((c : Int), ([], []))).2.1 ++ [x], (o.getD ((c : Int), ([], []))).2.2)) := by cases o <;> rfl
  have ec : i64 ((c : Int) + 1) = ((c + 1 : Nat) : Int) := by rw [i64_id (by omega) (by omega)]; omega
  rw [ec]
  refine ⟨hrow.ok, ?_, ?_⟩
  · unfold fits; rw [hrow.1]; simp; omega
  · by_cases hc2 : ((hs'.getD D.length noHr).2.1).n + 1 ≤ ((hs'.getD D.length noHr).2.1).c
    · refine cond_t (by simpa [Nat.ble_eq] using hc2) ?_
      obtain ⟨l1, l2⟩ := hrow.more x hc2
      refine hK _ _ ?_
      rw [ed]
      refine hS'.old (o := o.getD ((c : Int), ([], []))) l1 (.inl ?_) l2
      obtain ⟨_, _, h3 | ⟨b, ys, cap, h3, h4, h5⟩⟩ := hrow
      · simp only [blk, h3, if_true]
      · rfl
    · refine cond_f (by rw [← Bool.not_eq_true]; simpa [Nat.ble_eq] using hc2) fun b cap hb1 hb2 => ?_
      obtain ⟨l1, l2⟩ := hrow.moved x hb1 hb2
      refine hK _ _ ?_
      rw [ed]
      refine hS'.old (o := o.getD ((c : Int), ([], []))) l1 (.inr fun b' e => ?_) l2
      simp only [blk] at e
      split at e
      · cases e
      · simp only [Option.map_some, Option.some.injEq] at e; subst e; exact hb1
theorem ins_ok {x : ByteArray} {m : Pool} {c : Nat} {hs : List Hr} {D : List Hunk} {o : Option Hunk} (hS : Lay m hs (D ++ o.toList)) (hb : D.length ≤ 900) (ho : ∀ h, o = some h → h.2.2.length ≤ 900) {K : Pool → Int → Bool → List Hr → Prop}
    (hK : ∀ m' hs', Lay m' hs' (D ++ [insH o c x]) → K m' c true hs') : L.c9 x m c o.isSome hs K := by
  constructor
  unfold L.c9_B
  refine hunk_ok hS hb fun hs' hS' => ?_
  have hrow := hS'.row (D.length, false) (by simp)
  have e0 : txr (D ++ [o.getD ((c : Int), ([], []))]) (D.length, false) = (o.getD ((c : Int), ([], []))).2.2 := by
    show (List.getD _ _ noHunk).2.2 = _
    rw [getD_last]
  have e1 : hdr hs' (D.length, false) = (hs'.getD D.length noHr).2.2 := rfl
  rw [e0, e1] at hrow
  have hlen : (o.getD ((c : Int), ([], []))).2.2.length ≤ 900 := by
    cases o with
    | some h => exact ho h rfl
    | none => exact Nat.zero_le _
  have ed : insH o c x = ((o.getD ((c : Int), ([], []))).1, ((o.getD ((c : Int), ([], []))).2.1, (o.getD ((c : Int), ([], []))).2.2 ++ [x])) := by cases o <;> rfl
  refine ⟨hrow.ok, ?_, ?_⟩
  · unfold fits; rw [hrow.1]; simp; omega
  · by_cases hc2 : ((hs'.getD D.length noHr).2.2).n + 1 ≤ ((hs'.getD D.length noHr).2.2).c
    · refine cond_t (by simpa [Nat.ble_eq] using hc2) ?_
      obtain ⟨l1, l2⟩ := hrow.more x hc2
      refine hK _ _ ?_
      rw [ed]
      refine hS'.new (o := o.getD ((c : Int), ([], []))) l1 (.inl ?_) l2
      obtain ⟨_, _, h3 | ⟨b, ys, cap, h3, h4, h5⟩⟩ := hrow
      · simp only [blk, h3, if_true]
      · rfl
    · refine cond_f (by rw [← Bool.not_eq_true]; simpa [Nat.ble_eq] using hc2) fun b cap hb1 hb2 => ?_
      obtain ⟨l1, l2⟩ := hrow.moved x hb1 hb2
      refine hK _ _ ?_
      rw [ed]
      refine hS'.new (o := o.getD ((c : Int), ([], []))) l1 (.inr fun b' e => ?_) l2
      simp only [blk] at e
      split at e
      · cases e
      · simp only [Option.map_some, Option.some.injEq] at e; subst e; exact hb1
def Sm (n : Nat) (o : Option Hunk) : Prop := ∀ h, o = some h → h.2.1.length ≤ n ∧ h.2.2.length ≤ n
theorem Sm.del {n : Nat} {o : Option Hunk} (h : Sm n o) (c : Nat) (x : ByteArray) : Sm (n + 1) (some (delH o c x)) := by
  intro g e
  cases e
  cases o with
  | some g => obtain ⟨h1, h2⟩ := h g rfl; constructor <;> simp [delH] <;> omega
  | none => constructor <;> simp [delH]
theorem Sm.ins {n : Nat} {o : Option Hunk} (h : Sm n o) (c : Nat) (x : ByteArray) : Sm (n + 1) (some (insH o c x)) := by
  intro g e
  cases e
  cases o with
  | some g => obtain ⟨h1, h2⟩ := h g rfl; constructor <;> simp [insH] <;> omega
  | none => constructor <;> simp [insH]
theorem script_loop {A B : Txt} {S : List Int} (hA : A.length ≤ 120) (hB : B.length ≤ 120) (hS : S.length ≤ 240) {K : Pool → Int → Bool → List Hr → Prop} {st : List Int} {a b : Txt} (h : Al st a b) : ∀ (fu i j k : Nat) (m : Pool) (hs : List Hr) (D : List Hunk) (o : Option Hunk),
    S.drop k = st → A.drop i = a → B.drop j = b → i ≤ A.length → j ≤ B.length → k ≤ S.length → st.length < fu → Lay m hs (D ++ o.toList) → D.length ≤ k → Sm k o →
    (∀ m' c' v' hs', Lay m' hs' (D ++ scr st a b i o) → K m' c' v' hs') → L.a8_L1_R A B (S.length : Int) S fu i j k m i o.isSome hs K := by
  induction h with
  | nil =>
    intro fu i j k m hs D o eS eA eB hi hj hk hf hL hD hm hK
    cases fu with
    | zero => omega
    | succ fu =>
      show L.a8_L1_b _ _ _ _ _ _ _ _ _ _ _ _ _
      unfold L.a8_L1_b
      have : S.length ≤ k := by simpa using eS
      exact cond_f (by simp; omega) (hK m _ _ hs hL)
  | keep x h ih =>
    intro fu i j k m hs D o eS eA eB hi hj hk hf hL hD hm hK
    cases fu with
    | zero => omega
    | succ fu =>
      show L.a8_L1_b _ _ _ _ _ _ _ _ _ _ _ _ _
      unfold L.a8_L1_b
      obtain ⟨a1, a2, a3⟩ := drop_succ eA
      obtain ⟨b1, b2, b3⟩ := drop_succ eB
      have k2 : k < S.length := by
        have := congrArg List.length eS
        simp only [List.length_drop, List.length_cons] at this
        omega
      have e := eS
      rw [List.drop_eq_getElem_cons k2] at e
      injection e with e1 e2
      have ge : S.getD k 0 = 0 := by rw [getD_get _ _ _ k2, e1]
      refine cond_t (by simpa using k2) ⟨by unfold inB; omega, ?_⟩
      rw [Int.toNat_natCast, ge]
      refine cond_t rfl ⟨?_⟩
      unfold L.d3_B
      refine cond_t rfl ?_
      have f1 : i64 ((i : Int) + 1) = ((i + 1 : Nat) : Int) := by rw [i64_id (by omega) (by omega)]; omega
      have f2 : i64 ((j : Int) + 1) = ((j + 1 : Nat) : Int) := by rw [i64_id (by omega) (by omega)]; omega
      have f3 : i64 ((k : Int) + 1) = ((k + 1 : Nat) : Int) := by rw [i64_id (by omega) (by omega)]; omega
      rw [f1, f2, f3]
      have hf' : _ < fu := Nat.lt_of_succ_lt_succ hf
      refine ih fu (i + 1) (j + 1) (k + 1) m hs (D ++ o.toList) none e2 a1 b1 a2 b2 k2 hf' (by simpa using hL) ?_ (fun _ e => by cases e) fun m' c' v' hs' hL' => hK m' c' v' hs' ?_
      · have : o.toList.length ≤ 1 := by cases o <;> simp
        simp only [List.length_append]; omega
      · rw [scr_keep, ← List.append_assoc]; exact hL'
  | del x h ih =>
    intro fu i j k m hs D o eS eA eB hi hj hk hf hL hD hm hK
    cases fu with
    | zero => omega
    | succ fu =>
      show L.a8_L1_b _ _ _ _ _ _ _ _ _ _ _ _ _
      unfold L.a8_L1_b
      obtain ⟨a1, a2, a3⟩ := drop_succ eA
      have k2 : k < S.length := by
        have := congrArg List.length eS
        simp only [List.length_drop, List.length_cons] at this
        omega
      have e := eS
      rw [List.drop_eq_getElem_cons k2] at e
      injection e with e1 e2
      have ge : S.getD k 0 = 1 := by rw [getD_get _ _ _ k2, e1]
      have gx : A.getD i ByteArray.empty = x := by simp [List.getD, a3]
      refine cond_t (by simpa using k2) ⟨by unfold inB; omega, ?_⟩
      rw [Int.toNat_natCast, ge, Int.toNat_natCast, gx]
      refine cond_f rfl (cond_t rfl ⟨by unfold inB; omega, ?_⟩)
      refine del_ok hL (by omega) (by omega) (fun g eg => by have := (hm g eg).1; omega) fun m' hs' hL' => ?_
      have f1 : i64 ((i : Int) + 1) = ((i + 1 : Nat) : Int) := by rw [i64_id (by omega) (by omega)]; omega
      have f3 : i64 ((k : Int) + 1) = ((k + 1 : Nat) : Int) := by rw [i64_id (by omega) (by omega)]; omega
      rw [f1, f3]
      have hf' : _ < fu := Nat.lt_of_succ_lt_succ hf
      refine ih fu (i + 1) j (k + 1) m' hs' D (some (delH o i x)) e2 a1 eB a2 hj k2 hf' hL' (by omega) (hm.del i x) fun m2 c2 v2 hs2 hL2 => hK m2 c2 v2 hs2 ?_
      rw [scr_del]; exact hL2
  | ins y h ih =>
    intro fu i j k m hs D o eS eA eB hi hj hk hf hL hD hm hK
    cases fu with
    | zero => omega
    | succ fu =>
      show L.a8_L1_b _ _ _ _ _ _ _ _ _ _ _ _ _
      unfold L.a8_L1_b
      obtain ⟨b1, b2, b3⟩ := drop_succ eB
      have k2 : k < S.length := by
        have := congrArg List.length eS
        simp only [List.length_drop, List.length_cons] at this
        omega
      have e := eS
      rw [List.drop_eq_getElem_cons k2] at e
      injection e with e1 e2
      have ge : S.getD k 0 = 2 := by rw [getD_get _ _ _ k2, e1]
      have gx : B.getD j ByteArray.empty = y := by simp [List.getD, b3]
      refine cond_t (by simpa using k2) ⟨by unfold inB; omega, ?_⟩
      rw [Int.toNat_natCast, ge, Int.toNat_natCast, Int.toNat_natCast, gx]
      refine cond_f rfl (cond_f rfl ⟨by unfold inB; omega, ?_⟩)
      refine ins_ok hL (by omega) (fun g eg => by have := (hm g eg).2; omega) fun m' hs' hL' => ?_
      have f2 : i64 ((j : Int) + 1) = ((j + 1 : Nat) : Int) := by rw [i64_id (by omega) (by omega)]; omega
      have f3 : i64 ((k : Int) + 1) = ((k + 1 : Nat) : Int) := by rw [i64_id (by omega) (by omega)]; omega
      rw [f2, f3]
      have hf' : _ < fu := Nat.lt_of_succ_lt_succ hf
      refine ih fu i (j + 1) (k + 1) m' hs' D (some (insH o i y)) e2 eA b1 hi b2 k2 hf' hL' (by omega) (hm.ins i y) fun m2 c2 v2 hs2 hL2 => hK m2 c2 v2 hs2 ?_
      rw [scr_ins]; exact hL2
def sp (a b : Txt) : List Hunk := scr (aln a b) a b 0 none
theorem both_ok {a b : Txt} (ha : lin a = (0, 0)) (hb : lin b = (0, 0)) {K : Int → Int → Prop} (hK : K 0 0) : L.e6 a b K := by
  constructor
  unfold L.e6_B
  refine lin_ok ?_
  rw [ha]
  refine cond_f (fault0 rfl) ?_
  refine linS_ok ?_
  rw [hb]
  exact hK
theorem script_ok {a b : Txt} (ha : lin a = (0, 0)) (hb : lin b = (0, 0)) {K : List Hunk → Int → Int → Prop} (hK : K (sp a b) 0 0) : L.a8 a b K := by
  have la := lin_len ha
  have lb := lin_len hb
  constructor
  unfold L.a8_B
  refine both_ok ha hb ?_
  refine cond_f (fault0 rfl) ?_
  refine align_ok la lb ?_
  have hl := aln_len a b
  refine ⟨_, script_loop (S := aln a b) la lb (by omega) (aln_al a b) ((aln a b).length + 1) 0 0 0 [] [] [] none rfl rfl rfl (Nat.zero_le _) (Nat.zero_le _) (Nat.zero_le _) (Nat.lt_succ_self _) (Lay.emp _) (Nat.zero_le _) (fun _ e => by cases e) fun m' c' v' hs' hL => ⟨?_⟩⟩
  unfold L.d2_B
  refine ⟨hL.okRows, ?_⟩
  have e := hL.fz
  rw [List.nil_append] at e
  rw [e]
  exact hK
end Tp
end Go.Proofs.YtkpplfghhciacaaDoor
set_option linter.unusedVariables false
set_option linter.unusedSimpArgs false
namespace Go.Proofs.YtkpplfghhciacaaDoor
open Eng Bb
namespace Tp
def lt (x y : ByteArray) : Prop := Lib.compareBytes x.data.toList y.data.toList = -1
theorem cb_cases : ∀ (x y : List UInt8), (Lib.compareBytes x y = -1 ∧ Op.bytesLess x y = true ∧ x ≠ y) ∨ (Lib.compareBytes x y = 0 ∧ Op.bytesLess x y = false ∧ x = y) ∨ (Lib.compareBytes x y = 1 ∧ Op.bytesLess x y = false ∧ x ≠ y)
  | [], [] => by simp [Lib.compareBytes, Op.bytesLess]
  | [], _ :: _ => by simp [Lib.compareBytes, Op.bytesLess]
  | _ :: _, [] => by simp [Lib.compareBytes, Op.bytesLess]
  | a :: x, b :: y => by
    have ih := cb_cases x y
    rw [Lib.compareBytes, Op.bytesLess]
    by_cases h1 : a < b
    · simp [h1, UInt8.ne_of_lt h1]
    · by_cases h2 : a = b
      · subst h2
        simpa [UInt8.lt_irrefl] using ih
      · have h3 : b < a := by
          rcases UInt8.lt_or_lt_of_ne h2 with h | h
          · exact absurd h h1
          · exact h
        simp [h1, h2, h3]
theorem cb_swap : ∀ (x y : List UInt8), Lib.compareBytes x y = 1 ↔ Lib.compareBytes y x = -1
  | [], [] => by simp [Lib.compareBytes]
  | [], _ :: _ => by simp [Lib.compareBytes]
  | _ :: _, [] => by simp [Lib.compareBytes]
  | a :: x, b :: y => by
    have ih := cb_swap x y
    rw [Lib.compareBytes, Lib.compareBytes]
    by_cases h1 : a < b
    · have := UInt8.lt_asymm h1; simp [h1, this, UInt8.ne_of_lt h1, (UInt8.ne_of_lt h1).symm]
    · by_cases h2 : a = b
      · subst h2; simpa [UInt8.lt_irrefl] using ih
      · have h3 : b < a := by
          rcases UInt8.lt_or_lt_of_ne h2 with h | h
          · exact absurd h h1
          · exact h
        simp [h1, h2, h3, (UInt8.ne_of_lt h3)]
theorem cb_trans : ∀ (x y z : List UInt8), Lib.compareBytes x y = -1 → Lib.compareBytes y z = -1 → Lib.compareBytes x z = -1
  | [], _, [], h1, h2 => by
    rename_i y
    cases y with
    | nil => simp [Lib.compareBytes] at h1
    | cons => simp [Lib.compareBytes] at h2
  | [], _, _ :: _, h1, h2 => by simp [Lib.compareBytes]
  | _ :: _, [], _, h1, h2 => by simp [Lib.compareBytes] at h1
  | _ :: _, _ :: _, [], h1, h2 => by simp [Lib.compareBytes] at h2
  | a :: x, b :: y, c :: z, h1, h2 => by
    have ih := cb_trans x y z
    rw [Lib.compareBytes] at h1 h2 ⊢
    by_cases e1 : a < b
    · by_cases e2 : b < c
      · simp [UInt8.lt_trans e1 e2]
      · by_cases e3 : b = c
        · subst e3; simp [e1]
        · have e4 : c < b := by
            rcases UInt8.lt_or_lt_of_ne e3 with h | h
            · exact absurd h e2
            · exact h
          simp [e2, e4] at h2
    · by_cases e5 : a = b
      · subst e5
        simp [UInt8.lt_irrefl] at h1
        by_cases e2 : a < c
        · simp [e2]
        · by_cases e3 : a = c
          · subst e3; simp [UInt8.lt_irrefl] at h2 ⊢; exact ih h1 h2
          · have e4 : c < a := by
              rcases UInt8.lt_or_lt_of_ne e3 with h | h
              · exact absurd h e2
              · exact h
            simp [e2, e4] at h2
      · have e4 : b < a := by
          rcases UInt8.lt_or_lt_of_ne e5 with h | h
          · exact absurd h e1
          · exact h
        simp [e1, e4] at h1
theorem ba_ext {x y : ByteArray} (h : x.data.toList = y.data.toList) : x = y := by
  cases x; cases y
  simp only at h
  rw [Array.toList_inj.1 h]
theorem lt_trans {x y z : ByteArray} (h1 : lt x y) (h2 : lt y z) : lt x z := cb_trans _ _ _ h1 h2
theorem lt_irrefl (x : ByteArray) : ¬ lt x x := fun h => by
  rcases cb_cases x.data.toList x.data.toList with ⟨_, _, e⟩ | ⟨e, _, _⟩ | ⟨_, _, e⟩
  · exact e rfl
  · unfold lt at h; omega
  · exact e rfl
theorem lt_ne {x y : ByteArray} (h : lt x y) : x ≠ y := fun e => lt_irrefl y (e ▸ h)
theorem lt_asymm {x y : ByteArray} (h : lt x y) : ¬ lt y x := fun g => lt_irrefl _ (lt_trans h g)
theorem cmp_neg {x y : ByteArray} : La.cmp_R x y < 0 ↔ lt x y := by
  unfold La.cmp_R lt
  rcases cb_cases x.data.toList y.data.toList with ⟨e, _⟩ | ⟨e, _⟩ | ⟨e, _⟩ <;> rw [e] <;> omega
theorem cmp_zero {x y : ByteArray} : La.cmp_R x y = 0 ↔ x = y := by
  unfold La.cmp_R
  rcases cb_cases x.data.toList y.data.toList with ⟨e, _, g⟩ | ⟨e, _, g⟩ | ⟨e, _, g⟩ <;> rw [e]
  · exact ⟨fun h => by omega, fun h => absurd (by rw [h]) g⟩
  · exact ⟨fun _ => ba_ext g, fun _ => rfl⟩
  · exact ⟨fun h => by omega, fun h => absurd (by rw [h]) g⟩
theorem lt_of_not {x y : ByteArray} (h1 : ¬ lt x y) (h2 : x ≠ y) : lt y x := by
  unfold lt at h1 ⊢
  rcases cb_cases x.data.toList y.data.toList with ⟨e, _, g⟩ | ⟨e, _, g⟩ | ⟨e, _, g⟩
  · exact absurd e h1
  · exact absurd (ba_ext g) h2
  · exact (cb_swap _ _).1 e
theorem le_false {x y : ByteArray} (h : le x y = false) : lt y x := by
  unfold le at h
  rw [Bool.or_eq_false_iff] at h
  obtain ⟨h1, h2⟩ := h
  rw [ByteArray.toList_eq, ByteArray.toList_eq] at h1 h2
  refine lt_of_not (fun g => ?_) (fun g => ?_)
  · rcases cb_cases x.data.toList y.data.toList with ⟨e, f, _⟩ | ⟨e, _⟩ | ⟨e, _⟩
    · rw [f] at h1; cases h1
    · unfold lt at g; omega
    · unfold lt at g; omega
  · subst g; simp at h2
def Srt (t : Tree) : Prop := t.Pairwise fun f g => lt f.1 g.1
theorem bs_spec {t : Tree} {p : ByteArray} {k : Nat} (hk : k ≤ t.length) (h1 : ∀ i, i < k → lt (t.getD i noFile).1 p) (h2 : ∀ i, k ≤ i → i < t.length → ¬ lt (t.getD i noFile).1 p) : ∀ (n i j : Nat), i ≤ k → k ≤ j → j ≤ t.length → j - i < n → bsL t p n i j = k
  | 0, i, j, _, _, _, h => by omega
  | n + 1, i, j, hi, hj, hl, h => by
    rw [bsL]
    by_cases c : i < j
    · rw [if_pos c]
      by_cases c2 : La.cmp_R (t.getD ((i + j) / 2) noFile).1 p < 0
      · rw [if_pos c2]
        refine bs_spec hk h1 h2 n _ j ?_ hj hl (by omega)
        refine Decidable.byContradiction fun g => ?_
        exact h2 ((i + j) / 2) (by omega) (by omega) (cmp_neg.1 c2)
      · rw [if_neg c2]
        refine bs_spec hk h1 h2 n i _ hi ?_ (by omega) (by omega)
        refine Decidable.byContradiction fun g => ?_
        exact c2 (cmp_neg.2 (h1 _ (by omega)))
    · rw [if_neg c]; omega
theorem srt_app {u v : Tree} : Srt (u ++ v) ↔ Srt u ∧ Srt v ∧ ∀ f, f ∈ u → ∀ g, g ∈ v → lt f.1 g.1 := List.pairwise_append
theorem srt_cons {f : File} {v : Tree} : Srt (f :: v) ↔ (∀ g, g ∈ v → lt f.1 g.1) ∧ Srt v := List.pairwise_cons
theorem get_app_left {u v : Tree} {i : Nat} (h : i < u.length) : (u ++ v).getD i noFile ∈ u := by
  rw [getD_left _ h]; exact getD_mem _ h
theorem get_app_right {u v : Tree} {i : Nat} (h1 : u.length ≤ i) (h2 : i < (u ++ v).length) : (u ++ v).getD i noFile ∈ v := by
  have : (u ++ v).getD i noFile = v.getD (i - u.length) noFile := by simp [List.getD, List.getElem?_append_right h1]
  rw [this]
  refine getD_mem _ ?_
  rw [List.length_append] at h2; omega
theorem place_at {u v : Tree} {f : File} (h : Srt (u ++ f :: v)) : place (u ++ f :: v) f.1 = u.length ∧ found (u ++ f :: v) f.1 = true := by
  obtain ⟨h1, h2, h3⟩ := srt_app.1 h
  obtain ⟨h4, h5⟩ := srt_cons.1 h2
  have hp : place (u ++ f :: v) f.1 = u.length := by
    unfold place
    refine bs_spec (by simp) (fun i hi => h3 _ (get_app_left hi) f (List.mem_cons_self ..)) (fun i hi hl => ?_) _ 0 _ (Nat.zero_le _) (by simp) (Nat.le_refl _) (by omega)
    rcases List.mem_cons.1 (get_app_right hi hl) with e | e
    · rw [e]; exact lt_irrefl _
    · exact lt_asymm (h4 _ e)
  refine ⟨hp, ?_⟩
  unfold found
  rw [hp]
  have : (u ++ f :: v).getD u.length noFile = f := by simp [List.getD]
  rw [this]
  have h0 : La.cmp_R f.1 f.1 = 0 := cmp_zero.2 rfl
  rw [h0]
  simp
theorem place_new {u v : Tree} {p : ByteArray} (h1 : ∀ f, f ∈ u → lt f.1 p) (h2 : ∀ f, f ∈ v → lt p f.1) : place (u ++ v) p = u.length ∧ found (u ++ v) p = false := by
  have hp : place (u ++ v) p = u.length := by
    unfold place
    exact bs_spec (by simp) (fun i hi => h1 _ (get_app_left hi)) (fun i hi hl => lt_asymm (h2 _ (get_app_right hi hl))) _ 0 _ (Nat.zero_le _) (by simp) (Nat.le_refl _) (by omega)
  refine ⟨hp, ?_⟩
  unfold found
  rw [hp]
  by_cases c : u.length < (u ++ v).length
  · have hm := h2 _ (get_app_right (Nat.le_refl _) c)
    have : La.cmp_R ((u ++ v).getD u.length noFile).1 p ≠ 0 := fun e => lt_ne hm (cmp_zero.1 e).symm
    rw [decide_eq_true c, Bool.true_and]
    exact beq_eq_false_iff_ne.2 this
  · rw [decide_eq_false c]; rfl
theorem found_mem {t : Tree} {p : ByteArray} (h : found t p = true) : t.getD (place t p) noFile ∈ t ∧ (t.getD (place t p) noFile).1 = p := by
  unfold found at h
  rw [Bool.and_eq_true] at h
  exact ⟨getD_mem _ (of_decide_eq_true h.1), cmp_zero.1 (by simpa using h.2)⟩
theorem found_iff {t : Tree} (hs : Srt t) (p : ByteArray) : found t p = true ↔ ∃ f, f ∈ t ∧ f.1 = p := by
  refine ⟨fun h => ⟨_, (found_mem h).1, (found_mem h).2⟩, ?_⟩
  rintro ⟨f, hf, rfl⟩
  obtain ⟨u, v, rfl⟩ := List.append_of_mem hf
  exact (place_at hs).2
theorem srt_uniq {t : Tree} (hs : Srt t) {f g : File} (hf : f ∈ t) (hg : g ∈ t) (e : f.1 = g.1) : f = g := by
  obtain ⟨u, v, rfl⟩ := List.append_of_mem hf
  obtain ⟨h1, h2, h3⟩ := srt_app.1 hs
  obtain ⟨h4, h5⟩ := srt_cons.1 h2
  rcases List.mem_append.1 hg with h | h
  · exact absurd e.symm (lt_ne (h3 g h f (List.mem_cons_self ..)))
  · rcases List.mem_cons.1 h with h | h
    · exact h.symm
    · exact absurd e (lt_ne (h4 g h))
theorem srt_ext : ∀ {s t : Tree}, Srt s → Srt t → (∀ f, f ∈ s ↔ f ∈ t) → s = t
  | [], [], _, _, _ => rfl
  | [], g :: t, _, _, h => absurd ((h g).2 (List.mem_cons_self ..)) (by simp)
  | f :: s, [], _, _, h => absurd ((h f).1 (List.mem_cons_self ..)) (by simp)
  | f :: s, g :: t, h1, h2, h => by
    obtain ⟨a1, a2⟩ := srt_cons.1 h1
    obtain ⟨b1, b2⟩ := srt_cons.1 h2
    have e : f = g := by
      rcases List.mem_cons.1 ((h f).1 (List.mem_cons_self ..)) with e | e
      · exact e
      · rcases List.mem_cons.1 ((h g).2 (List.mem_cons_self ..)) with e' | e'
        · exact e'.symm
        · exact absurd (a1 g e') (lt_asymm (b1 f e))
    subst e
    have hn : ∀ x : File, x ∈ s → x ≠ f := fun x hx e => lt_irrefl f.1 (e ▸ a1 x hx)
    have hm : ∀ x : File, x ∈ t → x ≠ f := fun x hx e => lt_irrefl f.1 (e ▸ b1 x hx)
    refine congrArg (f :: ·) (srt_ext a2 b2 fun x => ⟨fun hx => ?_, fun hx => ?_⟩)
    · exact (List.mem_cons.1 ((h x).1 (List.mem_cons_of_mem _ hx))).resolve_left (hn x hx)
    · exact (List.mem_cons.1 ((h x).2 (List.mem_cons_of_mem _ hx))).resolve_left (hm x hx)
end Tp
end Go.Proofs.YtkpplfghhciacaaDoor
set_option linter.unusedVariables false
set_option linter.unusedSimpArgs false
namespace Go.Proofs.YtkpplfghhciacaaDoor
open Eng Bb
namespace Tp
structure GoodH (T : Txt) (h : Hunk) : Prop where
  occ : ∃ c, c ≤ T.length ∧ Opn T c h
  new : ∀ s, s ∈ h.2.2 → lnOk s
  len : h.2.2.length ≤ 120
  some : 1 ≤ h.2.1.length + h.2.2.length
def OpH (T : Txt) (c n : Nat) (o : Option Hunk) : Prop := ∀ h, o = some h → Opn T c h ∧ (∀ s, s ∈ h.2.2 → lnOk s) ∧ h.2.2.length + n ≤ 120 ∧ 1 ≤ h.2.1.length + h.2.2.length
theorem OpH.good {T : Txt} {c n : Nat} {o : Option Hunk} (h : OpH T c n o) (hc : c ≤ T.length) : ∀ g, g ∈ o.toList → GoodH T g := by
  intro g hg
  cases o with
  | none => cases hg
  | some o =>
    obtain rfl : g = o := by simpa using hg
    obtain ⟨h1, h2, h3, h4⟩ := h g rfl
    exact ⟨⟨c, hc, h1⟩, h2, by omega, h4⟩
theorem OpH.del {T : Txt} {c n : Nat} {o : Option Hunk} {x : ByteArray} (h : OpH T c n o) (hn : n ≤ 120) (hx : T[c]? = some x) : OpH T (c + 1) n (some (delH o c x)) := by
  intro g e
  cases e
  cases o with
  | some o =>
    obtain ⟨h1, h2, h3, h4⟩ := h o rfl
    exact ⟨h1.del hx, h2, h3, by simp [delH]; omega⟩
  | none => exact ⟨Opn.new hx, fun s hs => by simp [delH] at hs, by simp [delH]; exact hn, by simp [delH]⟩
theorem OpH.ins {T : Txt} {c n : Nat} {o : Option Hunk} {y : ByteArray} (h : OpH T c (n + 1) o) (hn : n + 1 ≤ 120) (hy : lnOk y) : OpH T c n (some (insH o c y)) := by
  intro g e
  cases e
  cases o with
  | some o =>
    obtain ⟨h1, h2, h3, h4⟩ := h o rfl
    refine ⟨h1.ins, fun s hs => ?_, ?_, ?_⟩
    · rcases List.mem_append.1 hs with e | e
      · exact h2 s e
      · obtain rfl : s = y := by simpa using e
        exact hy
    · simp [insH]; omega
    · simp [insH]; omega
  | none => exact ⟨Opn.ins0, fun s hs => by obtain rfl : s = y := by simpa [insH] using hs
                                            exact hy, by simp [insH]; omega, by simp [insH]⟩
theorem scr_good (T : Txt) {st : List Int} {a b : Txt} (h : Al st a b) : ∀ (c : Nat) (o : Option Hunk), T.drop c = a → c ≤ T.length → (∀ s, s ∈ b → lnOk s) → b.length ≤ 120 → OpH T c b.length o → ∀ g, g ∈ scr st a b c o → GoodH T g := by
  induction h with
  | nil => intro c o hc hl hb hn ho g hg; exact ho.good hl g hg
  | keep x h ih =>
    intro c o hc hl hb hn ho g hg
    obtain ⟨d1, d2, d3⟩ := drop_succ hc
    rw [scr_keep] at hg
    rcases List.mem_append.1 hg with e | e
    · exact ho.good hl g e
    · exact ih (c + 1) none d1 d2 (fun s hs => hb s (List.mem_cons_of_mem _ hs)) (by rw [List.length_cons] at hn; omega) (fun _ e => by cases e) g e
  | del x h ih =>
    intro c o hc hl hb hn ho g hg
    obtain ⟨d1, d2, d3⟩ := drop_succ hc
    rw [scr_del] at hg
    exact ih (c + 1) _ d1 d2 hb hn (ho.del hn d3) g hg
  | ins y h ih =>
    intro c o hc hl hb hn ho g hg
    rw [scr_ins] at hg
    rw [List.length_cons] at hn ho
    exact ih c _ hc hl (fun s hs => hb s (List.mem_cons_of_mem _ hs)) (by omega) (ho.ins hn (hb y (List.mem_cons_self ..))) g hg
theorem scr_len {st : List Int} {a b : Txt} (h : Al st a b) : ∀ (c : Nat), (3 * (scr st a b c none).length ≤ a.length + b.length + 2) ∧ ∀ o, 3 * (scr st a b c (some o)).length ≤ a.length + b.length + 3 := by
  induction h with
  | nil => intro c; exact ⟨by simp [scr], fun o => by simp [scr]⟩
  | keep x h ih =>
    intro c
    obtain ⟨i1, i2⟩ := ih (c + 1)
    refine ⟨?_, fun o => ?_⟩ <;> rw [scr_keep] <;> simp <;> omega
  | del x h ih =>
    intro c
    obtain ⟨i1, i2⟩ := ih (c + 1)
    refine ⟨?_, fun o => ?_⟩
    · rw [scr_del]; have := i2 (delH none c x); simp; omega
    · rw [scr_del]; have := i2 (delH (some o) c x); simp; omega
  | ins y h ih =>
    intro c
    obtain ⟨i1, i2⟩ := ih c
    refine ⟨?_, fun o => ?_⟩
    · rw [scr_ins]; have := i2 (insH none c y); simp; omega
    · rw [scr_ins]; have := i2 (insH (some o) c y); simp; omega
def Chn : Int → List Hunk → Prop
  | _, [] => True
  | e, h :: r => e < h.1 ∧ Chn (h.1 + h.2.1.length) r
theorem scr_chn (T : Txt) {st : List Int} {a b : Txt} (h : Al st a b) : ∀ (c : Nat), T.drop c = a → (∀ e : Int, e < c → Chn e (scr st a b c none)) ∧ ∀ (e : Int) (o : Hunk), Opn T c o → e < o.1 → Chn e (scr st a b c (some o)) := by
  induction h with
  | nil => intro c hc; exact ⟨fun e he => trivial, fun e o ho he => ⟨he, trivial⟩⟩
  | keep x h ih =>
    intro c hc
    obtain ⟨d1, d2, d3⟩ := drop_succ hc
    obtain ⟨i1, i2⟩ := ih (c + 1) d1
    refine ⟨fun e he => ?_, fun e o ho he => ?_⟩
    · rw [scr_keep]; exact i1 e (by omega)
    · rw [scr_keep]
      obtain ⟨k, h1, h2, h3⟩ := ho
      refine ⟨he, i1 _ ?_⟩
      rw [h1]; omega
  | del x h ih =>
    intro c hc
    obtain ⟨d1, d2, d3⟩ := drop_succ hc
    obtain ⟨i1, i2⟩ := ih (c + 1) d1
    refine ⟨fun e he => ?_, fun e o ho he => ?_⟩
    · rw [scr_del]; exact i2 e _ (Opn.new d3) he
    · rw [scr_del]; exact i2 e _ (ho.del d3) he
  | ins y h ih =>
    intro c hc
    obtain ⟨i1, i2⟩ := ih c hc
    refine ⟨fun e he => ?_, fun e o ho he => ?_⟩
    · rw [scr_ins]; exact i2 e _ Opn.ins0 he
    · rw [scr_ins]; exact i2 e _ ho.ins he
theorem mid_mem {T : Txt} {c k : Nat} {s : ByteArray} (h : s ∈ (T.take c).drop k) : s ∈ T := List.mem_of_mem_take (List.mem_of_mem_drop h)
theorem hk_good {T : Txt} {h : Hunk} {e : Int} (hT : T.length ≤ 120) (hl : ∀ s, s ∈ T → lnOk s) (hg : GoodH T h) (he : e < h.1) : hk h e = 0 := by
  obtain ⟨⟨c, hc, k, h1, h2, h3⟩, hn, hln, hsm⟩ := hg
  have o1 : lin h.2.1 = (0, 0) := (lin_iff _).2 ⟨by omega, fun s hs => hl s (mid_mem (h3 ▸ hs))⟩
  have o2 : lin h.2.2 = (0, 0) := (lin_iff _).2 ⟨hln, hn⟩
  unfold hk
  rw [if_neg (by omega), if_neg (fun g => g o1), if_neg (fun g => g o2), if_neg (by omega), if_neg (by omega)]
theorem tpL_good {T : Txt} (hT : T.length ≤ 120) (hl : ∀ s, s ∈ T → lnOk s) : ∀ (p : List Hunk) (e : Int) (i : Nat), (∀ h, h ∈ p → GoodH T h) → Chn e p → tpL e i p = (0, 0)
  | [], _, _, _, _ => rfl
  | h :: r, e, i, hg, hc => by
    rw [tpL, hk_good hT hl (hg h (List.mem_cons_self ..)) hc.1]
    simp only [ne_eq, not_true, if_false]
    exact tpL_good hT hl r _ _ (fun g hm => hg g (List.mem_cons_of_mem _ hm)) hc.2
theorem eqL_refl : ∀ a : Txt, eqL a a = true
  | [] => rfl
  | a :: r => by rw [eqL, eqL_refl r]; simp
theorem oc_good {T : Txt} {h : Hunk} (hg : GoodH T h) : oc T h.2.1 h.1 = true := by
  obtain ⟨⟨c, hc, k, h1, h2, h3⟩, _, _, _⟩ := hg
  unfold oc
  have e : (h.1 + h.2.1.length).toNat = c := by omega
  rw [decide_eq_true (by omega), Bool.true_and, e, h1, Int.toNat_natCast, h3]
  exact eqL_refl _
theorem ocL_good {T : Txt} : ∀ (p : List Hunk) (i : Nat), (∀ h, h ∈ p → GoodH T h) → ocL T i p = (0, 0)
  | [], _, _ => rfl
  | h :: r, i, hg => by
    rw [ocL, oc_good (hg h (List.mem_cons_self ..))]
    simp only [Bool.true_eq_false, if_false]
    exact ocL_good r _ (fun g hm => hg g (List.mem_cons_of_mem _ hm))
theorem sp_raw (a b : Txt) : rawL a 0 (sp a b) [] = b := by
  have h := ((scr_raw a (aln_al a b) 0 rfl (Nat.zero_le _)).1 0 [] (Nat.le_refl _))
  rw [List.take_zero, List.drop_zero] at h
  exact h
theorem sp_valid {a b : Txt} (ha : lin a = (0, 0)) (hb : lin b = (0, 0)) : tpV (sp a b) = (0, 0) ∧ (∀ h, h ∈ sp a b → GoodH a h) := by
  obtain ⟨a1, a2⟩ := (lin_iff a).1 ha
  obtain ⟨b1, b2⟩ := (lin_iff b).1 hb
  have hg : ∀ h, h ∈ sp a b → GoodH a h := scr_good a (aln_al a b) 0 none rfl (Nat.zero_le _) b2 b1 (fun _ e => by cases e)
  have hl : 3 * (sp a b).length ≤ a.length + b.length + 2 := (scr_len (aln_al a b) 0).1
  refine ⟨?_, hg⟩
  unfold tpV
  rw [if_neg (by omega)]
  exact tpL_good a1 a2 _ _ _ hg ((scr_chn a (aln_al a b) 0 rfl).1 _ (by omega))
theorem sp_apply {a b : Txt} (ha : lin a = (0, 0)) (hb : lin b = (0, 0)) : tpA (sp a b) a = (b, (0, 0)) := by
  obtain ⟨h1, h2⟩ := sp_valid ha hb
  have hs : sec (lin a) (-2) = (0, 0) := by unfold sec; rw [if_pos ha]
  unfold tpA
  rw [if_neg (fun g => g h1), if_neg (fun g => g hs), if_neg (fun g => g (ocL_good _ 0 h2)), sp_raw, if_neg (by have := lin_len hb; omega)]
theorem scr_self : ∀ (a : Txt) (c : Nat), scr (aln a a) a a c none = []
  | [], c => by rw [aln_nil]; rfl
  | x :: a, c => by
    rw [aln_both, if_pos (eqb_refl x), scr_keep, scr_self a]; rfl
theorem sp_self (a : Txt) : sp a a = [] := scr_self a 0
theorem sp_nil {a b : Txt} (h : sp a b = []) : a = b := by
  have := sp_raw a b
  rw [h, rawL] at this
  simpa using this
end Tp
end Go.Proofs.YtkpplfghhciacaaDoor

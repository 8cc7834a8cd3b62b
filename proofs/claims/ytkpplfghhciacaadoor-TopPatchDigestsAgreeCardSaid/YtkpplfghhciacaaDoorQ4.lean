/-
  Part 4 of a proof of one law by a verified reader of the program: lifted functions, their plain specifications, the law. Conditions: none.
-/
import Derived.Test.YtkpplfghhciacaaDoorQ3
import Derived.Test.YtkpplfghhciacaaDoorProg
set_option linter.unusedVariables false
set_option maxRecDepth 100000
namespace Go.Proofs.YtkpplfghhciacaaDoor
open Eng
noncomputable abbrev L.pg : Program := Tryd.prog
def gA (vs : List V) (i : Nat) : V := vs.getD i .any
def gD (st : List Ob) (i : Nat) : Ob := st.getD i .dead
abbrev L.yd : Type := List (Int × (Hd × Hd))
abbrev L.yc : Ty := .pair (.int .i64) (.pair .hnd .hnd)
abbrev L.yb : Type := List ByteArray
abbrev L.ya : Ty := .pair .str (.slice .str)
abbrev L.T0 : Ty := (.slice (.pair (.int .i64) (.pair .str (.pair .str (.pair (.slice .str) (.slice (.pair (.int .i64) (.pair (.slice .str) (.slice .str)))))))))
abbrev L.T1 : Ty := (.pair (.int .i64) (.pair .str (.pair .str (.pair (.slice .str) (.slice (.pair (.int .i64) (.pair (.slice .str) (.slice .str))))))))
abbrev L.T2 : Type := List (Int × (ByteArray × (ByteArray × (L.yb × (List (Int × (L.yb × L.yb)))))))
abbrev L.T3 : Ty := (.pair .str (.pair .str (.pair (.slice .str) (.slice (.pair (.int .i64) (.pair (.slice .str) (.slice .str)))))))
abbrev L.T4 : Ty := (.pair .str (.pair (.slice .str) (.slice (.pair (.int .i64) (.pair (.slice .str) (.slice .str))))))
abbrev L.T5 : Ty := (.pair (.slice .str) (.slice (.pair (.int .i64) (.pair (.slice .str) (.slice .str)))))
abbrev L.T6 : Ty := (.slice (.pair (.int .i64) (.pair (.slice .str) (.slice .str))))
abbrev L.T7 : Ty := (.pair (.int .i64) (.pair (.slice .str) (.slice .str)))
abbrev L.T8 : Type := List (Int × (L.yb × L.yb))
abbrev L.T9 : Type := List (ByteArray × L.yb)
abbrev L.T10 : Ty := (.pair (.slice .str) (.slice .str))
def L.str1 : ByteArray := ⟨List.toArray []⟩
def L.str2 : ByteArray := ⟨List.toArray [47]⟩
def L.str3 : ByteArray := ⟨List.toArray [97]⟩
def L.str4 : ByteArray := ⟨List.toArray [98]⟩
def L.str5 : ByteArray := ⟨List.toArray [120]⟩
def L.ΔS : CtxO := fun g => if g = 54 then some ([.sl L.ya, .any, .any], Ins.delS) else if g = 64 then some ([.sl L.ya, .any, .sl L.ya], Ins.insS) else none
theorem L.ΔS_ok : SoundGO L.pg L.ΔS := by
  intro g x h
  unfold L.ΔS at h
  split at h
  · next e => cases h; subst e; exact Ins.delS_ok
  split at h
  · next e => cases h; subst e; exact Ins.insS_ok
  · cases h
def L.Γ_f1 : Ctx := ctx0
theorem L.Γ_f1_ok : SoundG L.pg L.Γ_f1 := ctx0_ok
def L.Δ_f1 : CtxO := L.ΔS
theorem L.Δ_f1_ok : SoundGO L.pg L.Δ_f1 := L.ΔS_ok
def L.f1_B (path : ByteArray) (K : Bool → Prop) : Prop :=
  K (La.vp_R path)
structure L.f1 (path : ByteArray) (K : Bool → Prop) : Prop where
  out : L.f1_B path K
def L.f1_ss : List Sh := [.str]
def L.f1_G (vs : List V) (K : V → List Ob → Prop) : Prop := L.f1 (gS (gA vs 0)) (fun r0 => K (.x (.bool r0)) [])
def L.f1_S : SemF := fun args K => argF L.f1_ss args fun a => L.f1_G a K
theorem L.f1_ok : SoundFn L.pg 42 L.f1_S := SoundFn.of_imp La.vp_ok fun args K h => argF_mono (fun a h => h.out) h
def L.Γ_f0 : Ctx := ctxC L.Γ_f1 42 L.f1_S
theorem L.Γ_f0_ok : SoundG L.pg L.Γ_f0 := ctxC_ok L.Γ_f1_ok L.f1_ok
def L.Δ_f0 : CtxO := L.Δ_f1
theorem L.Δ_f0_ok : SoundGO L.pg L.Δ_f0 := L.Δ_f1_ok
def L.f0_B (s : ByteArray) (prefix_ : ByteArray) (K : Bool → Prop) : Prop :=
  ((((decide ((s.size : Int) ≥ (prefix_.size : Int))) == true) = true → 0 ≤ (prefix_.size : Int) ∧ (prefix_.size : Int) ≤ s.size)) ∧ K (bif (decide ((s.size : Int) ≥ (prefix_.size : Int))) then ((s.extract 0 (prefix_.size : Int).toNat).toList == prefix_.toList) else false)
structure L.f0 (s : ByteArray) (prefix_ : ByteArray) (K : Bool → Prop) : Prop where
  out : L.f0_B s prefix_ K
def L.f0_ss : List Sh := [.str, .str]
def L.f0_G (vs : List V) (K : V → List Ob → Prop) : Prop := L.f0 (gS (gA vs 0)) (gS (gA vs 1)) (fun r0 => K (.x (.bool r0)) [])
def L.f0_S : SemF := fun args K => argF L.f0_ss args fun a => L.f0_G a K
theorem L.f0_eq (s : ByteArray) (prefix_ : ByteArray) (K : V → List Ob → Prop) : run L.pg L.Γ_f0 L.Δ_f0 .leaf .any Tryd.f77 [.x (.string s), .x (.string prefix_)] K = L.f0_B s prefix_ (fun r0 => K (.x (.bool r0)) []) := by
  kernel_rfl
theorem L.f0_imp (vs : List V) (K : V → List Ob → Prop) : Imp (L.f0_G vs K) (run L.pg L.Γ_f0 L.Δ_f0 .leaf .any Tryd.f77 (mkL L.f0_ss 0 vs) K) :=
  Imp.of (Eq.trans (b := run L.pg L.Γ_f0 L.Δ_f0 .leaf .any Tryd.f77 [.x (.string (gS (gA vs 0))), .x (.string (gS (gA vs 1)))] K) (by kernel_rfl) (L.f0_eq (gS (gA vs 0)) (gS (gA vs 1)) K)) fun h => (L.f0.out h)
theorem L.f0_ok : SoundFn L.pg 77 L.f0_S :=
  fn_ok (sem := run L.pg L.Γ_f0 L.Δ_f0 .leaf .any Tryd.f77) (ss := L.f0_ss) (G := L.f0_G) (run_ok L.Γ_f0_ok L.Δ_f0_ok Tryd.func77 (ann := .leaf) (annOk_leaf _)) L.f0_imp
def L.Γ_e1 : Ctx := ctxC L.Γ_f0 77 L.f0_S
theorem L.Γ_e1_ok : SoundG L.pg L.Γ_e1 := ctxC_ok L.Γ_f0_ok L.f0_ok
def L.Δ_e1 : CtxO := L.Δ_f0
theorem L.Δ_e1_ok : SoundGO L.pg L.Δ_e1 := L.Δ_f0_ok
def L.e1_B (s : ByteArray) (prefix_ : ByteArray) (K : Bool → Prop) : Prop :=
  L.f0 s prefix_ (fun r => K r)
structure L.e1 (s : ByteArray) (prefix_ : ByteArray) (K : Bool → Prop) : Prop where
  out : L.e1_B s prefix_ K
def L.e1_ss : List Sh := [.str, .str]
def L.e1_G (vs : List V) (K : V → List Ob → Prop) : Prop := L.e1 (gS (gA vs 0)) (gS (gA vs 1)) (fun r0 => K (.x (.bool r0)) [])
def L.e1_S : SemF := fun args K => argF L.e1_ss args fun a => L.e1_G a K
theorem L.e1_eq (s : ByteArray) (prefix_ : ByteArray) (K : V → List Ob → Prop) : run L.pg L.Γ_e1 L.Δ_e1 .leaf .any Tryd.f69 [.x (.string s), .x (.string prefix_)] K = L.e1_B s prefix_ (fun r0 => K (.x (.bool r0)) []) := by
  kernel_rfl
theorem L.e1_imp (vs : List V) (K : V → List Ob → Prop) : Imp (L.e1_G vs K) (run L.pg L.Γ_e1 L.Δ_e1 .leaf .any Tryd.f69 (mkL L.e1_ss 0 vs) K) :=
  Imp.of (Eq.trans (b := run L.pg L.Γ_e1 L.Δ_e1 .leaf .any Tryd.f69 [.x (.string (gS (gA vs 0))), .x (.string (gS (gA vs 1)))] K) (by kernel_rfl) (L.e1_eq (gS (gA vs 0)) (gS (gA vs 1)) K)) fun h => (L.e1.out h)
theorem L.e1_ok : SoundFn L.pg 69 L.e1_S :=
  fn_ok (sem := run L.pg L.Γ_e1 L.Δ_e1 .leaf .any Tryd.f69) (ss := L.e1_ss) (G := L.e1_G) (run_ok L.Γ_e1_ok L.Δ_e1_ok Tryd.func69 (ann := .leaf) (annOk_leaf _)) L.e1_imp
def L.Γ_e2 : Ctx := ctxC L.Γ_e1 69 L.e1_S
theorem L.Γ_e2_ok : SoundG L.pg L.Γ_e2 := ctxC_ok L.Γ_e1_ok L.e1_ok
def L.Δ_e2 : CtxO := L.Δ_e1
theorem L.Δ_e2_ok : SoundGO L.pg L.Δ_e2 := L.Δ_e1_ok
def L.e2_B (a : ByteArray) (b : ByteArray) (K : Bool → Prop) : Prop :=
  ((((a.toList == b.toList) == false) = true → ((b.size + L.str2.size : Nat) : Int) ≤ IntKind.i64.max)) ∧ (bif (a.toList == b.toList) then (((true == false) = true → ((a.size + L.str2.size : Nat) : Int) ≤ IntKind.i64.max)) ∧ K true else L.e1 a (b ++ L.str2) (fun r => ((((bif false then true else r) == false) = true → ((a.size + L.str2.size : Nat) : Int) ≤ IntKind.i64.max)) ∧ (bif (bif false then true else r) then K true else L.e1 b (a ++ L.str2) (fun r1 => K (bif false then true else r1)))))
structure L.e2 (a : ByteArray) (b : ByteArray) (K : Bool → Prop) : Prop where
  out : L.e2_B a b K
def L.e2_ss : List Sh := [.str, .str]
def L.e2_G (vs : List V) (K : V → List Ob → Prop) : Prop := L.e2 (gS (gA vs 0)) (gS (gA vs 1)) (fun r0 => K (.x (.bool r0)) [])
def L.e2_S : SemF := fun args K => argF L.e2_ss args fun a => L.e2_G a K
theorem L.e2_eq (a : ByteArray) (b : ByteArray) (K : V → List Ob → Prop) : run L.pg L.Γ_e2 L.Δ_e2 .leaf .any Tryd.f61 [.x (.string a), .x (.string b)] K = L.e2_B a b (fun r0 => K (.x (.bool r0)) []) := by
  kernel_rfl
theorem L.e2_imp (vs : List V) (K : V → List Ob → Prop) : Imp (L.e2_G vs K) (run L.pg L.Γ_e2 L.Δ_e2 .leaf .any Tryd.f61 (mkL L.e2_ss 0 vs) K) :=
  Imp.of (Eq.trans (b := run L.pg L.Γ_e2 L.Δ_e2 .leaf .any Tryd.f61 [.x (.string (gS (gA vs 0))), .x (.string (gS (gA vs 1)))] K) (by kernel_rfl) (L.e2_eq (gS (gA vs 0)) (gS (gA vs 1)) K)) fun h => (L.e2.out h)
theorem L.e2_ok : SoundFn L.pg 61 L.e2_S :=
  fn_ok (sem := run L.pg L.Γ_e2 L.Δ_e2 .leaf .any Tryd.f61) (ss := L.e2_ss) (G := L.e2_G) (run_ok L.Γ_e2_ok L.Δ_e2_ok Tryd.func61 (ann := .leaf) (annOk_leaf _)) L.e2_imp
def L.Γ_a5 : Ctx := ctxC L.Γ_e2 61 L.e2_S
theorem L.Γ_a5_ok : SoundG L.pg L.Γ_a5 := ctxC_ok L.Γ_e2_ok L.e2_ok
def L.Δ_a5 : CtxO := L.Δ_e2
theorem L.Δ_a5_ok : SoundGO L.pg L.Δ_a5 := L.Δ_e2_ok
def L.a5_J1_B (v24 : Bool) (Kn : Prop) (Kr : Bool → Prop) : Prop :=
  (bif v24 then Kr true else Kn)
structure L.a5_J1 (v24 : Bool) (Kn : Prop) (Kr : Bool → Prop) : Prop where
  out : L.a5_J1_B v24 Kn Kr
def L.a5_J1_d : CutD := { base := 1, vecs := [], flds := [], keep := [1, 2, 9, 10, 11, 24], out := [1, 2, 9, 10, 11], rets := [6], ovecs := [], oflds := [], rv := [], rbase := 0 }
def L.a5_J1_ss : List Sh := [.str, .int .i64, .ro L.ya, .int .i64, .int .i64, .bool]
def L.a5_J1_os : List OSh := [.cells [.str, .ro .str]]
def L.a5_J1_G (vs : List V) (st : List Ob) (K : Ex → St) : Prop := L.a5_J1 (gB (gA vs 5)) (K .normal (bld [1, 2, 9, 10, 11] [.x (.string (gS (gA vs 0))), .xi (gI (gA vs 1)), .ro L.ya (gR L.ya (gA vs 2)), .xi (gI (gA vs 3)), .xi (gI (gA vs 4))] 0 26) [.cells [.x (.string (gS ((oC (gD st 0)).getD 0 .any))), .ro .str (gR .str ((oC (gD st 0)).getD 1 .any))]]) (fun q0_ => K .ret (bld [6] [.x (.bool q0_)] 0 26) [])
def L.a5_J1_F (vs : List V) (st : List Ob) (K : Ex → St) : Prop := fitF L.a5_J1_ss L.a5_J1_os vs st (L.a5_J1_G vs st K)
theorem L.a5_J1_eq (path1 : ByteArray) (except1 : Int) (v9 : L.T9) (v10 : Int) (v11 : Int) (v24 : Bool) (m0 : ByteArray) (m01 : L.yb) (K : Ex → St) : L.a5_J1_B v24 (K .normal (bld [1, 2, 9, 10, 11] [.x (.string path1), .xi except1, .ro L.ya v9, .xi v10, .xi v11] 0 26) [.cells [.x (.string m0), .ro .str m01]]) (fun q0_ => K .ret (bld [6] [.x (.bool q0_)] 0 26) []) = exec L.pg (CC L.pg L.Γ_a5 L.Δ_a5) (drawD L.pg L.Γ_a5 L.Δ_a5) .leaf (sub [true, false, true, false, false, true, true, false, false, true, true] (codeOf Tryd.f43)) (bld L.a5_J1_d.keep [.x (.string path1), .xi except1, .ro L.ya v9, .xi v10, .xi v11, .x (.bool v24)] 0 26) [.cells [.x (.string m0), .ro .str m01]] (cutK L.a5_J1_d K) := by
  kernel_rfl
theorem L.a5_J1_ok (vs : List V) (st : List Ob) (K : Ex → St) : Imp (L.a5_J1_G vs st K) (exec L.pg (CC L.pg L.Γ_a5 L.Δ_a5) (drawD L.pg L.Γ_a5 L.Δ_a5) .leaf (sub [true, false, true, false, false, true, true, false, false, true, true] (codeOf Tryd.f43)) (bld L.a5_J1_d.keep (mkL L.a5_J1_ss 0 vs) 0 26) (mkOs L.a5_J1_os 0 st) (cutK L.a5_J1_d K)) :=
  Imp.of (Eq.trans (b := exec L.pg (CC L.pg L.Γ_a5 L.Δ_a5) (drawD L.pg L.Γ_a5 L.Δ_a5) .leaf (sub [true, false, true, false, false, true, true, false, false, true, true] (codeOf Tryd.f43)) (bld L.a5_J1_d.keep [.x (.string (gS (gA vs 0))), .xi (gI (gA vs 1)), .ro L.ya (gR L.ya (gA vs 2)), .xi (gI (gA vs 3)), .xi (gI (gA vs 4)), .x (.bool (gB (gA vs 5)))] 0 26) [.cells [.x (.string (gS ((oC (gD st 0)).getD 0 .any))), .ro .str (gR .str ((oC (gD st 0)).getD 1 .any))]] (cutK L.a5_J1_d K)) (by kernel_rfl) (Eq.symm (L.a5_J1_eq (gS (gA vs 0)) (gI (gA vs 1)) (gR L.ya (gA vs 2)) (gI (gA vs 3)) (gI (gA vs 4)) (gB (gA vs 5)) (gS ((oC (gD st 0)).getD 0 .any)) (gR .str ((oC (gD st 0)).getD 1 .any)) K))) fun h => (L.a5_J1.out h)
def L.a5_L1_b (path1 : ByteArray) (except1 : Int) (v9 : L.T9) (v10 : Int) (v11 : Int) (self : Int → Prop) (Kx0 : Prop) (Kr : Bool → Prop) : Prop :=
  (bif (decide (v11 < v10)) then (inB v11 v9.length) ∧ (bif (v11 != except1) then L.e2 ((v9.getD v11.toNat (ByteArray.empty, [])).1) path1 (fun r => L.a5_J1 (bif true then r else false) (self (i64 (v11 + 1))) Kr) else L.a5_J1 false (self (i64 (v11 + 1))) Kr) else Kx0)
def L.a5_L1_R (path1 : ByteArray) (except1 : Int) (v9 : L.T9) (v10 : Int) : Nat → Int → (Prop) → (Bool → Prop) → Prop
  | 0, _, _, _ => False
  | fu + 1, v11, Kx0, Kr => L.a5_L1_b path1 except1 v9 v10 v11 (fun v11 => L.a5_L1_R path1 except1 v9 v10 fu v11 Kx0 Kr) Kx0 Kr
structure L.a5_L1 (path1 : ByteArray) (except1 : Int) (v9 : L.T9) (v10 : Int) (v11 : Int) (Kx0 : Prop) (Kr : Bool → Prop) : Prop where
  out : ∃ fu, L.a5_L1_R path1 except1 v9 v10 fu v11 Kx0 Kr
def L.a5_L1_d : LoopD := { base := 0, vecs := [], flds := [], keep := [1, 2, 9, 10, 11], out := [], rets := [6], rv := [], rbase := 0 }
def L.a5_L1_ss : List Sh := [.str, .int .i64, .ro L.ya, .int .i64, .int .i64]
def L.a5_L1_os : List OSh := []
def L.a5_L1_G (vs : List V) (st : List Ob) (K : Ex → St) : Prop := L.a5_L1 (gS (gA vs 0)) (gI (gA vs 1)) (gR L.ya (gA vs 2)) (gI (gA vs 3)) (gI (gA vs 4)) (K (.exit 0) (bld [] [] 0 26) []) (fun q0_ => K .ret (bld [6] [.x (.bool q0_)] 0 26) [])
def L.a5_L1_F (vs : List V) (st : List Ob) (K : Ex → St) : Prop := fitF L.a5_L1_ss L.a5_L1_os vs st (L.a5_L1_G vs st K)
theorem L.a5_L1_eq (path1 : ByteArray) (except1 : Int) (v9 : L.T9) (v10 : Int) (K : Ex → St) : ∀ (fu : Nat) (v11 : Int), L.a5_L1_R path1 except1 v9 v10 fu v11 (K (.exit 0) (bld [] [] 0 26) []) (fun q0_ => K .ret (bld [6] [.x (.bool q0_)] 0 26) []) = iterL (stepL (exec L.pg (CC L.pg L.Γ_a5 L.Δ_a5) (drawD L.pg L.Γ_a5 L.Δ_a5) (.node .leaf (.node .leaf (.node (.node .leaf (.cut .leaf L.a5_J1_d 26 L.a5_J1_F)) .leaf))) (sub [true, false, true, false, false] (codeOf Tryd.f43))) 0 L.a5_L1_d K) fu (bld L.a5_L1_d.keep [.x (.string path1), .xi except1, .ro L.ya v9, .xi v10, .xi v11] 0 26) [] := by
  intro fu
  induction fu with
  | zero => intros; rfl
  | succ fu ih =>
    intro v11
    have e : (fun v11 => L.a5_L1_R path1 except1 v9 v10 fu v11 (K (.exit 0) (bld [] [] 0 26) []) (fun q0_ => K .ret (bld [6] [.x (.bool q0_)] 0 26) [])) = fun v11 => iterL (stepL (exec L.pg (CC L.pg L.Γ_a5 L.Δ_a5) (drawD L.pg L.Γ_a5 L.Δ_a5) (.node .leaf (.node .leaf (.node (.node .leaf (.cut .leaf L.a5_J1_d 26 L.a5_J1_F)) .leaf))) (sub [true, false, true, false, false] (codeOf Tryd.f43))) 0 L.a5_L1_d K) fu (bld L.a5_L1_d.keep [.x (.string path1), .xi except1, .ro L.ya v9, .xi v10, .xi v11] 0 26) [] := by
      funext v11; exact ih v11
    show L.a5_L1_b path1 except1 v9 v10 v11 (fun v11 => L.a5_L1_R path1 except1 v9 v10 fu v11 (K (.exit 0) (bld [] [] 0 26) []) (fun q0_ => K .ret (bld [6] [.x (.bool q0_)] 0 26) [])) (K (.exit 0) (bld [] [] 0 26) []) (fun q0_ => K .ret (bld [6] [.x (.bool q0_)] 0 26) []) = _
    rw [e]
    kernel_rfl
theorem L.a5_L1_imp (vs : List V) (st : List Ob) (K : Ex → St) (h : L.a5_L1_G vs st K) : ∃ fu, iterL (stepL (exec L.pg (CC L.pg L.Γ_a5 L.Δ_a5) (drawD L.pg L.Γ_a5 L.Δ_a5) (.node .leaf (.node .leaf (.node (.node .leaf (.cut .leaf L.a5_J1_d 26 L.a5_J1_F)) .leaf))) (sub [true, false, true, false, false] (codeOf Tryd.f43))) 0 L.a5_L1_d K) fu (bld L.a5_L1_d.keep (mkL L.a5_L1_ss 0 vs) 0 26) (mkOs L.a5_L1_os 0 st) :=
  exMap (fun fu h => @Eq.mp _ _ (Eq.trans (L.a5_L1_eq (gS (gA vs 0)) (gI (gA vs 1)) (gR L.ya (gA vs 2)) (gI (gA vs 3)) K fu (gI (gA vs 4))) (by kernel_rfl)) h) (L.a5_L1.out h)
theorem L.a5_L1_ok : AnnOk L.pg (CC L.pg L.Γ_a5 L.Δ_a5) (drawD L.pg L.Γ_a5 L.Δ_a5) 0 (.lift L.a5_L1_d 26 L.a5_L1_F) (.loop (sub [true, false, true, false, false] (codeOf Tryd.f43))) :=
  lift_ok (an := (.node .leaf (.node .leaf (.node (.node .leaf (.cut .leaf L.a5_J1_d 26 L.a5_J1_F)) .leaf)))) (ss := L.a5_L1_ss) (os := L.a5_L1_os) (G := L.a5_L1_G) rfl (Nat.le_of_ble_eq_true rfl) ⟨(annOk_leaf _), ⟨(annOk_leaf _), ⟨⟨(annOk_leaf _), (cut_ok (ay := .leaf) (ss := L.a5_J1_ss) (os := L.a5_J1_os) (G := L.a5_J1_G) rfl (annOk_leaf _) (Nat.le_of_ble_eq_true rfl) (Nat.le_of_ble_eq_true rfl) (annOk_leaf _) L.a5_J1_ok)⟩, (annOk_leaf _)⟩⟩⟩ (L.a5_L1_imp)
def L.a5_B (files : L.T9) (path : ByteArray) (except : Int) (K : Bool → Prop) : Prop :=
  L.a5_L1 path except files (files.length : Int) 0 (K false) (fun r => K r)
structure L.a5 (files : L.T9) (path : ByteArray) (except : Int) (K : Bool → Prop) : Prop where
  out : L.a5_B files path except K
def L.a5_ss : List Sh := [.ro L.ya, .str, .int .i64]
def L.a5_G (vs : List V) (K : V → List Ob → Prop) : Prop := L.a5 (gR L.ya (gA vs 0)) (gS (gA vs 1)) (gI (gA vs 2)) (fun r0 => K (.x (.bool r0)) [])
def L.a5_S : SemF := fun args K => argF L.a5_ss args fun a => L.a5_G a K
theorem L.a5_eq (files : L.T9) (path : ByteArray) (except : Int) (K : V → List Ob → Prop) : run L.pg L.Γ_a5 L.Δ_a5 (.node .leaf (.node (.node .leaf (.lift L.a5_L1_d 26 L.a5_L1_F)) .leaf)) .any Tryd.f43 [.ro L.ya files, .x (.string path), .xi except] K = L.a5_B files path except (fun r0 => K (.x (.bool r0)) []) := by
  kernel_rfl
theorem L.a5_imp (vs : List V) (K : V → List Ob → Prop) : Imp (L.a5_G vs K) (run L.pg L.Γ_a5 L.Δ_a5 (.node .leaf (.node (.node .leaf (.lift L.a5_L1_d 26 L.a5_L1_F)) .leaf)) .any Tryd.f43 (mkL L.a5_ss 0 vs) K) :=
  Imp.of (Eq.trans (b := run L.pg L.Γ_a5 L.Δ_a5 (.node .leaf (.node (.node .leaf (.lift L.a5_L1_d 26 L.a5_L1_F)) .leaf)) .any Tryd.f43 [.ro L.ya (gR L.ya (gA vs 0)), .x (.string (gS (gA vs 1))), .xi (gI (gA vs 2))] K) (by kernel_rfl) (L.a5_eq (gR L.ya (gA vs 0)) (gS (gA vs 1)) (gI (gA vs 2)) K)) fun h => (L.a5.out h)
theorem L.a5_ok : SoundFn L.pg 43 L.a5_S :=
  fn_ok (sem := run L.pg L.Γ_a5 L.Δ_a5 (.node .leaf (.node (.node .leaf (.lift L.a5_L1_d 26 L.a5_L1_F)) .leaf)) .any Tryd.f43) (ss := L.a5_ss) (G := L.a5_G) (run_ok L.Γ_a5_ok L.Δ_a5_ok Tryd.func43 (ann := (.node .leaf (.node (.node .leaf (.lift L.a5_L1_d 26 L.a5_L1_F)) .leaf))) ⟨(annOk_leaf _), ⟨⟨(annOk_leaf _), L.a5_L1_ok⟩, (annOk_leaf _)⟩⟩) L.a5_imp
def L.Γ_f2 : Ctx := ctxC L.Γ_a5 43 L.a5_S
theorem L.Γ_f2_ok : SoundG L.pg L.Γ_f2 := ctxC_ok L.Γ_a5_ok L.a5_ok
def L.Δ_f2 : CtxO := L.Δ_a5
theorem L.Δ_f2_ok : SoundGO L.pg L.Δ_f2 := L.Δ_a5_ok
def L.f2_B (s : ByteArray) (c : Int) (K : Int → Prop) : Prop :=
  K (La.idx_R s c)
structure L.f2 (s : ByteArray) (c : Int) (K : Int → Prop) : Prop where
  out : L.f2_B s c K
def L.f2_ss : List Sh := [.str, .int .u8]
def L.f2_G (vs : List V) (K : V → List Ob → Prop) : Prop := L.f2 (gS (gA vs 0)) (gI (gA vs 1)) (fun r0 => K (.xi r0) [])
def L.f2_S : SemF := fun args K => argF L.f2_ss args fun a => L.f2_G a K
theorem L.f2_ok : SoundFn L.pg 58 L.f2_S := SoundFn.of_imp La.idx_ok fun args K h => argF_mono (fun a h => h.out) h
def L.Γ_b2 : Ctx := ctxC L.Γ_f2 58 L.f2_S
theorem L.Γ_b2_ok : SoundG L.pg L.Γ_b2 := ctxC_ok L.Γ_f2_ok L.f2_ok
def L.Δ_b2 : CtxO := L.Δ_f2
theorem L.Δ_b2_ok : SoundGO L.pg L.Δ_b2 := L.Δ_f2_ok
def L.b2_L1_b (v9 : L.yb) (v10 : Int) (v11 : Int) (self : Int → Prop) (Kx0 : Prop) (Kr : Int → Int → Prop) : Prop :=
  (bif (decide (v11 < v10)) then (inB v11 v9.length) ∧ (bif (decide (((v9.getD v11.toNat ByteArray.empty).size : Int) > 80)) then Kr 2 v11 else L.f2 (v9.getD v11.toNat ByteArray.empty) 10 (fun r => (bif (decide (r ≥ 0)) then Kr 5 v11 else self (i64 (v11 + 1))))) else Kx0)
def L.b2_L1_R (v9 : L.yb) (v10 : Int) : Nat → Int → (Prop) → (Int → Int → Prop) → Prop
  | 0, _, _, _ => False
  | fu + 1, v11, Kx0, Kr => L.b2_L1_b v9 v10 v11 (fun v11 => L.b2_L1_R v9 v10 fu v11 Kx0 Kr) Kx0 Kr
structure L.b2_L1 (v9 : L.yb) (v10 : Int) (v11 : Int) (Kx0 : Prop) (Kr : Int → Int → Prop) : Prop where
  out : ∃ fu, L.b2_L1_R v9 v10 fu v11 Kx0 Kr
def L.b2_L1_d : LoopD := { base := 1, vecs := [], flds := [], keep := [2, 9, 10, 11], out := [2], rets := [2], rv := [], rbase := 0 }
def L.b2_L1_ss : List Sh := [.cl 0 0, .ro .str, .int .i64, .int .i64]
def L.b2_L1_os : List OSh := [.cells [.int .i64, .int .i64]]
def L.b2_L1_G (vs : List V) (st : List Ob) (K : Ex → St) : Prop := L.b2_L1 (gR .str (gA vs 1)) (gI (gA vs 2)) (gI (gA vs 3)) (K (.exit 0) (bld [2] [.cl 0 0] 0 28) [.cells [.xi (cI st 0 0), .xi (cI st 0 1)]]) (fun q0_ q1_ => K .ret (bld [2] [.cl 0 0] 0 28) [.cells [.xi q0_, .xi q1_]])
def L.b2_L1_F (vs : List V) (st : List Ob) (K : Ex → St) : Prop := fitF L.b2_L1_ss L.b2_L1_os vs st (L.b2_L1_G vs st K)
theorem L.b2_L1_eq (v9 : L.yb) (v10 : Int) (m0 : Int) (m01 : Int) (K : Ex → St) : ∀ (fu : Nat) (v11 : Int), L.b2_L1_R v9 v10 fu v11 (K (.exit 0) (bld [2] [.cl 0 0] 0 28) [.cells [.xi m0, .xi m01]]) (fun q0_ q1_ => K .ret (bld [2] [.cl 0 0] 0 28) [.cells [.xi q0_, .xi q1_]]) = iterL (stepL (exec L.pg (CC L.pg L.Γ_b2 L.Δ_b2) (drawD L.pg L.Γ_b2 L.Δ_b2) .leaf (sub [true, true, false, true, false, false] (codeOf Tryd.f37))) 1 L.b2_L1_d K) fu (bld L.b2_L1_d.keep [.cl 0 0, .ro .str v9, .xi v10, .xi v11] 0 28) [.cells [.xi m0, .xi m01]] := by
  intro fu
  induction fu with
  | zero => intros; rfl
  | succ fu ih =>
    intro v11
    have e : (fun v11 => L.b2_L1_R v9 v10 fu v11 (K (.exit 0) (bld [2] [.cl 0 0] 0 28) [.cells [.xi m0, .xi m01]]) (fun q0_ q1_ => K .ret (bld [2] [.cl 0 0] 0 28) [.cells [.xi q0_, .xi q1_]])) = fun v11 => iterL (stepL (exec L.pg (CC L.pg L.Γ_b2 L.Δ_b2) (drawD L.pg L.Γ_b2 L.Δ_b2) .leaf (sub [true, true, false, true, false, false] (codeOf Tryd.f37))) 1 L.b2_L1_d K) fu (bld L.b2_L1_d.keep [.cl 0 0, .ro .str v9, .xi v10, .xi v11] 0 28) [.cells [.xi m0, .xi m01]] := by
      funext v11; exact ih v11
    show L.b2_L1_b v9 v10 v11 (fun v11 => L.b2_L1_R v9 v10 fu v11 (K (.exit 0) (bld [2] [.cl 0 0] 0 28) [.cells [.xi m0, .xi m01]]) (fun q0_ q1_ => K .ret (bld [2] [.cl 0 0] 0 28) [.cells [.xi q0_, .xi q1_]])) (K (.exit 0) (bld [2] [.cl 0 0] 0 28) [.cells [.xi m0, .xi m01]]) (fun q0_ q1_ => K .ret (bld [2] [.cl 0 0] 0 28) [.cells [.xi q0_, .xi q1_]]) = _
    rw [e]
    kernel_rfl
theorem L.b2_L1_imp (vs : List V) (st : List Ob) (K : Ex → St) (h : L.b2_L1_G vs st K) : ∃ fu, iterL (stepL (exec L.pg (CC L.pg L.Γ_b2 L.Δ_b2) (drawD L.pg L.Γ_b2 L.Δ_b2) .leaf (sub [true, true, false, true, false, false] (codeOf Tryd.f37))) 1 L.b2_L1_d K) fu (bld L.b2_L1_d.keep (mkL L.b2_L1_ss 0 vs) 0 28) (mkOs L.b2_L1_os 0 st) :=
  exMap (fun fu h => @Eq.mp _ _ (Eq.trans (L.b2_L1_eq (gR .str (gA vs 1)) (gI (gA vs 2)) (cI st 0 0) (cI st 0 1) K fu (gI (gA vs 3))) (by kernel_rfl)) h) (L.b2_L1.out h)
theorem L.b2_L1_ok : AnnOk L.pg (CC L.pg L.Γ_b2 L.Δ_b2) (drawD L.pg L.Γ_b2 L.Δ_b2) 0 (.lift L.b2_L1_d 28 L.b2_L1_F) (.loop (sub [true, true, false, true, false, false] (codeOf Tryd.f37))) :=
  lift_ok (an := .leaf) (ss := L.b2_L1_ss) (os := L.b2_L1_os) (G := L.b2_L1_G) rfl (Nat.le_of_ble_eq_true rfl) (annOk_leaf _) (L.b2_L1_imp)
def L.b2_B (lines : L.yb) (K : Int → Int → Prop) : Prop :=
  (bif (decide ((lines.length : Int) > 120)) then K 2 (-1) else L.b2_L1 lines (lines.length : Int) 0 (K 0 0) (fun m m1 => K m m1))
structure L.b2 (lines : L.yb) (K : Int → Int → Prop) : Prop where
  out : L.b2_B lines K
def L.b2_ss : List Sh := [.ro .str]
def L.b2_G (vs : List V) (K : V → List Ob → Prop) : Prop := L.b2 (gR .str (gA vs 0)) (fun r0 r1 => K (.agg [.xi r0, .xi r1]) [])
def L.b2_S : SemF := fun args K => argF L.b2_ss args fun a => L.b2_G a K
theorem L.b2_eq (lines : L.yb) (K : V → List Ob → Prop) : run L.pg L.Γ_b2 L.Δ_b2 (.node .leaf (.node .leaf (.node (.node .leaf (.lift L.b2_L1_d 28 L.b2_L1_F)) .leaf))) .any Tryd.f37 [.ro .str lines] K = L.b2_B lines (fun r0 r1 => K (.agg [.xi r0, .xi r1]) []) := by
  kernel_rfl
theorem L.b2_imp (vs : List V) (K : V → List Ob → Prop) : Imp (L.b2_G vs K) (run L.pg L.Γ_b2 L.Δ_b2 (.node .leaf (.node .leaf (.node (.node .leaf (.lift L.b2_L1_d 28 L.b2_L1_F)) .leaf))) .any Tryd.f37 (mkL L.b2_ss 0 vs) K) :=
  Imp.of (Eq.trans (b := run L.pg L.Γ_b2 L.Δ_b2 (.node .leaf (.node .leaf (.node (.node .leaf (.lift L.b2_L1_d 28 L.b2_L1_F)) .leaf))) .any Tryd.f37 [.ro .str (gR .str (gA vs 0))] K) (by kernel_rfl) (L.b2_eq (gR .str (gA vs 0)) K)) fun h => (L.b2.out h)
theorem L.b2_ok : SoundFn L.pg 37 L.b2_S :=
  fn_ok (sem := run L.pg L.Γ_b2 L.Δ_b2 (.node .leaf (.node .leaf (.node (.node .leaf (.lift L.b2_L1_d 28 L.b2_L1_F)) .leaf))) .any Tryd.f37) (ss := L.b2_ss) (G := L.b2_G) (run_ok L.Γ_b2_ok L.Δ_b2_ok Tryd.func37 (ann := (.node .leaf (.node .leaf (.node (.node .leaf (.lift L.b2_L1_d 28 L.b2_L1_F)) .leaf)))) ⟨(annOk_leaf _), ⟨(annOk_leaf _), ⟨⟨(annOk_leaf _), L.b2_L1_ok⟩, (annOk_leaf _)⟩⟩⟩) L.b2_imp
def L.Γ_d9 : Ctx := ctxC L.Γ_b2 37 L.b2_S
theorem L.Γ_d9_ok : SoundG L.pg L.Γ_d9 := ctxC_ok L.Γ_b2_ok L.b2_ok
def L.Δ_d9 : CtxO := L.Δ_b2
theorem L.Δ_d9_ok : SoundGO L.pg L.Δ_d9 := L.Δ_b2_ok
def L.d9_B (b : L.yb) (index : Int) (K : Int → Int → Prop) : Prop :=
  L.b2 b (fun rCode rIndex => (bif (!((rCode == 0) && ((rIndex == 0) && true))) then K rCode index else K 0 0))
structure L.d9 (b : L.yb) (index : Int) (K : Int → Int → Prop) : Prop where
  out : L.d9_B b index K
def L.d9_ss : List Sh := [.ro .str, .int .i64]
def L.d9_G (vs : List V) (K : V → List Ob → Prop) : Prop := L.d9 (gR .str (gA vs 0)) (gI (gA vs 1)) (fun r0 r1 => K (.agg [.xi r0, .xi r1]) [])
def L.d9_S : SemF := fun args K => argF L.d9_ss args fun a => L.d9_G a K
theorem L.d9_eq (b : L.yb) (index : Int) (K : V → List Ob → Prop) : run L.pg L.Γ_d9 L.Δ_d9 .leaf .any Tryd.f16 [.ro .str b, .xi index] K = L.d9_B b index (fun r0 r1 => K (.agg [.xi r0, .xi r1]) []) := by
  kernel_rfl
theorem L.d9_imp (vs : List V) (K : V → List Ob → Prop) : Imp (L.d9_G vs K) (run L.pg L.Γ_d9 L.Δ_d9 .leaf .any Tryd.f16 (mkL L.d9_ss 0 vs) K) :=
  Imp.of (Eq.trans (b := run L.pg L.Γ_d9 L.Δ_d9 .leaf .any Tryd.f16 [.ro .str (gR .str (gA vs 0)), .xi (gI (gA vs 1))] K) (by kernel_rfl) (L.d9_eq (gR .str (gA vs 0)) (gI (gA vs 1)) K)) fun h => (L.d9.out h)
theorem L.d9_ok : SoundFn L.pg 16 L.d9_S :=
  fn_ok (sem := run L.pg L.Γ_d9 L.Δ_d9 .leaf .any Tryd.f16) (ss := L.d9_ss) (G := L.d9_G) (run_ok L.Γ_d9_ok L.Δ_d9_ok Tryd.func16 (ann := .leaf) (annOk_leaf _)) L.d9_imp
def L.Γ_b6 : Ctx := ctxC L.Γ_d9 16 L.d9_S
theorem L.Γ_b6_ok : SoundG L.pg L.Γ_b6 := ctxC_ok L.Γ_d9_ok L.d9_ok
def L.Δ_b6 : CtxO := L.Δ_d9
theorem L.Δ_b6_ok : SoundGO L.pg L.Δ_b6 := L.Δ_d9_ok
def L.b6_L1_b (v12 : L.T9) (v13 : Int) (t : L.T9) (v14 : Int) (self : Int → Prop) (Kx0 : Prop) (Kr : Int → Int → Prop) : Prop :=
  (bif (decide (v14 < v13)) then (inB v14 v12.length) ∧ L.f1 ((v12.getD v14.toNat (ByteArray.empty, [])).1) (fun r => (bif (!r) then Kr 12 v14 else ((((decide (v14 > 0)) == true) = true → inB (i64 (v14 - 1)) t.length)) ∧ (bif (bif (decide (v14 > 0)) then ((Op.bytesLess ((v12.getD v14.toNat (ByteArray.empty, [])).1).toList ((t.getD ((i64 (v14 - 1)).toNat) (ByteArray.empty, [])).1).toList) || (((v12.getD v14.toNat (ByteArray.empty, [])).1).toList == ((t.getD ((i64 (v14 - 1)).toNat) (ByteArray.empty, [])).1).toList)) else false) then Kr 5 v14 else (0 ≤ v14 ∧ v14 ≤ t.length) ∧ L.a5 (t.take v14.toNat) ((v12.getD v14.toNat (ByteArray.empty, [])).1) (-1) (fun r1 => (bif r1 then Kr 7 v14 else L.d9 ((v12.getD v14.toNat (ByteArray.empty, [])).2) v14 (fun rCode rIndex => (bif (!((rCode == 0) && ((rIndex == 0) && true))) then Kr rCode rIndex else self (i64 (v14 + 1))))))))) else Kx0)
def L.b6_L1_R (v12 : L.T9) (v13 : Int) (t : L.T9) : Nat → Int → (Prop) → (Int → Int → Prop) → Prop
  | 0, _, _, _ => False
  | fu + 1, v14, Kx0, Kr => L.b6_L1_b v12 v13 t v14 (fun v14 => L.b6_L1_R v12 v13 t fu v14 Kx0 Kr) Kx0 Kr
structure L.b6_L1 (v12 : L.T9) (v13 : Int) (t : L.T9) (v14 : Int) (Kx0 : Prop) (Kr : Int → Int → Prop) : Prop where
  out : ∃ fu, L.b6_L1_R v12 v13 t fu v14 Kx0 Kr
def L.b6_L1_d : LoopD := { base := 2, vecs := [], flds := [], keep := [1, 2, 12, 13, 14], out := [2], rets := [2], rv := [], rbase := 0 }
def L.b6_L1_ss : List Sh := [.cl 0 0, .cl 1 0, .ro L.ya, .int .i64, .int .i64]
def L.b6_L1_os : List OSh := [.cells [.ro L.ya], .cells [.int .i64, .int .i64]]
def L.b6_L1_G (vs : List V) (st : List Ob) (K : Ex → St) : Prop := L.b6_L1 (gR L.ya (gA vs 2)) (gI (gA vs 3)) (gR L.ya ((oC (gD st 0)).getD 0 .any)) (gI (gA vs 4)) (K (.exit 0) (bld [2] [.cl 1 0] 0 63) [.cells [.ro L.ya (gR L.ya ((oC (gD st 0)).getD 0 .any))], .cells [.xi (cI st 1 0), .xi (cI st 1 1)]]) (fun q0_ q1_ => K .ret (bld [2] [.cl 0 0] 0 63) [.cells [.xi q0_, .xi q1_]])
def L.b6_L1_F (vs : List V) (st : List Ob) (K : Ex → St) : Prop := fitF L.b6_L1_ss L.b6_L1_os vs st (L.b6_L1_G vs st K)
theorem L.b6_L1_eq (v12 : L.T9) (v13 : Int) (t : L.T9) (m1 : Int) (m11 : Int) (K : Ex → St) : ∀ (fu : Nat) (v14 : Int), L.b6_L1_R v12 v13 t fu v14 (K (.exit 0) (bld [2] [.cl 1 0] 0 63) [.cells [.ro L.ya t], .cells [.xi m1, .xi m11]]) (fun q0_ q1_ => K .ret (bld [2] [.cl 0 0] 0 63) [.cells [.xi q0_, .xi q1_]]) = iterL (stepL (exec L.pg (CC L.pg L.Γ_b6 L.Δ_b6) (drawD L.pg L.Γ_b6 L.Δ_b6) .leaf (sub [true, true, false, true, false, false] (codeOf Tryd.f22))) 2 L.b6_L1_d K) fu (bld L.b6_L1_d.keep [.cl 0 0, .cl 1 0, .ro L.ya v12, .xi v13, .xi v14] 0 63) [.cells [.ro L.ya t], .cells [.xi m1, .xi m11]] := by
  intro fu
  induction fu with
  | zero => intros; rfl
  | succ fu ih =>
    intro v14
    have e : (fun v14 => L.b6_L1_R v12 v13 t fu v14 (K (.exit 0) (bld [2] [.cl 1 0] 0 63) [.cells [.ro L.ya t], .cells [.xi m1, .xi m11]]) (fun q0_ q1_ => K .ret (bld [2] [.cl 0 0] 0 63) [.cells [.xi q0_, .xi q1_]])) = fun v14 => iterL (stepL (exec L.pg (CC L.pg L.Γ_b6 L.Δ_b6) (drawD L.pg L.Γ_b6 L.Δ_b6) .leaf (sub [true, true, false, true, false, false] (codeOf Tryd.f22))) 2 L.b6_L1_d K) fu (bld L.b6_L1_d.keep [.cl 0 0, .cl 1 0, .ro L.ya v12, .xi v13, .xi v14] 0 63) [.cells [.ro L.ya t], .cells [.xi m1, .xi m11]] := by
      funext v14; exact ih v14
    show L.b6_L1_b v12 v13 t v14 (fun v14 => L.b6_L1_R v12 v13 t fu v14 (K (.exit 0) (bld [2] [.cl 1 0] 0 63) [.cells [.ro L.ya t], .cells [.xi m1, .xi m11]]) (fun q0_ q1_ => K .ret (bld [2] [.cl 0 0] 0 63) [.cells [.xi q0_, .xi q1_]])) (K (.exit 0) (bld [2] [.cl 1 0] 0 63) [.cells [.ro L.ya t], .cells [.xi m1, .xi m11]]) (fun q0_ q1_ => K .ret (bld [2] [.cl 0 0] 0 63) [.cells [.xi q0_, .xi q1_]]) = _
    rw [e]
    kernel_rfl
theorem L.b6_L1_imp (vs : List V) (st : List Ob) (K : Ex → St) (h : L.b6_L1_G vs st K) : ∃ fu, iterL (stepL (exec L.pg (CC L.pg L.Γ_b6 L.Δ_b6) (drawD L.pg L.Γ_b6 L.Δ_b6) .leaf (sub [true, true, false, true, false, false] (codeOf Tryd.f22))) 2 L.b6_L1_d K) fu (bld L.b6_L1_d.keep (mkL L.b6_L1_ss 0 vs) 0 63) (mkOs L.b6_L1_os 0 st) :=
  exMap (fun fu h => @Eq.mp _ _ (Eq.trans (L.b6_L1_eq (gR L.ya (gA vs 2)) (gI (gA vs 3)) (gR L.ya ((oC (gD st 0)).getD 0 .any)) (cI st 1 0) (cI st 1 1) K fu (gI (gA vs 4))) (by kernel_rfl)) h) (L.b6_L1.out h)
theorem L.b6_L1_ok : AnnOk L.pg (CC L.pg L.Γ_b6 L.Δ_b6) (drawD L.pg L.Γ_b6 L.Δ_b6) 0 (.lift L.b6_L1_d 63 L.b6_L1_F) (.loop (sub [true, true, false, true, false, false] (codeOf Tryd.f22))) :=
  lift_ok (an := .leaf) (ss := L.b6_L1_ss) (os := L.b6_L1_os) (G := L.b6_L1_G) rfl (Nat.le_of_ble_eq_true rfl) (annOk_leaf _) (L.b6_L1_imp)
def L.b6_B (t_Files : L.T9) (K : Int → Int → Prop) : Prop :=
  (bif (decide ((t_Files.length : Int) > 24)) then K 2 (-1) else L.b6_L1 t_Files (t_Files.length : Int) t_Files 0 (K 0 0) (fun t r => K t r))
structure L.b6 (t_Files : L.T9) (K : Int → Int → Prop) : Prop where
  out : L.b6_B t_Files K
def L.b6_ss : List Sh := [.agg [.ro L.ya]]
def L.b6_G (vs : List V) (K : V → List Ob → Prop) : Prop := L.b6 (gR L.ya ((gC (gA vs 0)).getD 0 .any)) (fun r0 r1 => K (.agg [.xi r0, .xi r1]) [])
def L.b6_S : SemF := fun args K => argF L.b6_ss args fun a => L.b6_G a K
theorem L.b6_eq (t_Files : L.T9) (K : V → List Ob → Prop) : run L.pg L.Γ_b6 L.Δ_b6 (.node .leaf (.node .leaf (.node (.node .leaf (.lift L.b6_L1_d 63 L.b6_L1_F)) .leaf))) .any Tryd.f22 [.agg [.ro L.ya t_Files]] K = L.b6_B t_Files (fun r0 r1 => K (.agg [.xi r0, .xi r1]) []) := by
  kernel_rfl
theorem L.b6_imp (vs : List V) (K : V → List Ob → Prop) : Imp (L.b6_G vs K) (run L.pg L.Γ_b6 L.Δ_b6 (.node .leaf (.node .leaf (.node (.node .leaf (.lift L.b6_L1_d 63 L.b6_L1_F)) .leaf))) .any Tryd.f22 (mkL L.b6_ss 0 vs) K) :=
  Imp.of (Eq.trans (b := run L.pg L.Γ_b6 L.Δ_b6 (.node .leaf (.node .leaf (.node (.node .leaf (.lift L.b6_L1_d 63 L.b6_L1_F)) .leaf))) .any Tryd.f22 [.agg [.ro L.ya (gR L.ya ((gC (gA vs 0)).getD 0 .any))]] K) (by kernel_rfl) (L.b6_eq (gR L.ya ((gC (gA vs 0)).getD 0 .any)) K)) fun h => (L.b6.out h)
theorem L.b6_ok : SoundFn L.pg 22 L.b6_S :=
  fn_ok (sem := run L.pg L.Γ_b6 L.Δ_b6 (.node .leaf (.node .leaf (.node (.node .leaf (.lift L.b6_L1_d 63 L.b6_L1_F)) .leaf))) .any Tryd.f22) (ss := L.b6_ss) (G := L.b6_G) (run_ok L.Γ_b6_ok L.Δ_b6_ok Tryd.func22 (ann := (.node .leaf (.node .leaf (.node (.node .leaf (.lift L.b6_L1_d 63 L.b6_L1_F)) .leaf)))) ⟨(annOk_leaf _), ⟨(annOk_leaf _), ⟨⟨(annOk_leaf _), L.b6_L1_ok⟩, (annOk_leaf _)⟩⟩⟩) L.b6_imp
def L.Γ_e3 : Ctx := ctxC L.Γ_b6 22 L.b6_S
theorem L.Γ_e3_ok : SoundG L.pg L.Γ_e3 := ctxC_ok L.Γ_b6_ok L.b6_ok
def L.Δ_e3 : CtxO := L.Δ_b6
theorem L.Δ_e3_ok : SoundGO L.pg L.Δ_e3 := L.Δ_b6_ok
def L.e3_B (t_Files : L.T9) (index : Int) (K : Int → Int → Prop) : Prop :=
  L.b6 t_Files (fun rCode rIndex => (bif (!((rCode == 0) && ((rIndex == 0) && true))) then K rCode index else K 0 0))
structure L.e3 (t_Files : L.T9) (index : Int) (K : Int → Int → Prop) : Prop where
  out : L.e3_B t_Files index K
def L.e3_ss : List Sh := [.agg [.ro L.ya], .int .i64]
def L.e3_G (vs : List V) (K : V → List Ob → Prop) : Prop := L.e3 (gR L.ya ((gC (gA vs 0)).getD 0 .any)) (gI (gA vs 1)) (fun r0 r1 => K (.agg [.xi r0, .xi r1]) [])
def L.e3_S : SemF := fun args K => argF L.e3_ss args fun a => L.e3_G a K
theorem L.e3_eq (t_Files : L.T9) (index : Int) (K : V → List Ob → Prop) : run L.pg L.Γ_e3 L.Δ_e3 .leaf .any Tryd.f23 [.agg [.ro L.ya t_Files], .xi index] K = L.e3_B t_Files index (fun r0 r1 => K (.agg [.xi r0, .xi r1]) []) := by
  kernel_rfl
theorem L.e3_imp (vs : List V) (K : V → List Ob → Prop) : Imp (L.e3_G vs K) (run L.pg L.Γ_e3 L.Δ_e3 .leaf .any Tryd.f23 (mkL L.e3_ss 0 vs) K) :=
  Imp.of (Eq.trans (b := run L.pg L.Γ_e3 L.Δ_e3 .leaf .any Tryd.f23 [.agg [.ro L.ya (gR L.ya ((gC (gA vs 0)).getD 0 .any))], .xi (gI (gA vs 1))] K) (by kernel_rfl) (L.e3_eq (gR L.ya ((gC (gA vs 0)).getD 0 .any)) (gI (gA vs 1)) K)) fun h => (L.e3.out h)
theorem L.e3_ok : SoundFn L.pg 23 L.e3_S :=
  fn_ok (sem := run L.pg L.Γ_e3 L.Δ_e3 .leaf .any Tryd.f23) (ss := L.e3_ss) (G := L.e3_G) (run_ok L.Γ_e3_ok L.Δ_e3_ok Tryd.func23 (ann := .leaf) (annOk_leaf _)) L.e3_imp
def L.Γ_f3 : Ctx := ctxC L.Γ_e3 23 L.e3_S
theorem L.Γ_f3_ok : SoundG L.pg L.Γ_f3 := ctxC_ok L.Γ_e3_ok L.e3_ok
def L.Δ_f3 : CtxO := L.Δ_e3
theorem L.Δ_f3_ok : SoundGO L.pg L.Δ_f3 := L.Δ_e3_ok
def L.f3_B (a : ByteArray) (b : ByteArray) (K : Int → Prop) : Prop :=
  K (La.cmp_R a b)
structure L.f3 (a : ByteArray) (b : ByteArray) (K : Int → Prop) : Prop where
  out : L.f3_B a b K
def L.f3_ss : List Sh := [.str, .str]
def L.f3_G (vs : List V) (K : V → List Ob → Prop) : Prop := L.f3 (gS (gA vs 0)) (gS (gA vs 1)) (fun r0 => K (.xi r0) [])
def L.f3_S : SemF := fun args K => argF L.f3_ss args fun a => L.f3_G a K
theorem L.f3_ok : SoundFn L.pg 46 L.f3_S := SoundFn.of_imp La.cmp_ok fun args K h => argF_mono (fun a h => h.out) h
def L.Γ_e8 : Ctx := ctxC L.Γ_f3 46 L.f3_S
theorem L.Γ_e8_ok : SoundG L.pg L.Γ_e8 := ctxC_ok L.Γ_f3_ok L.f3_ok
def L.Δ_e8 : CtxO := L.Δ_f3
theorem L.Δ_e8_ok : SoundGO L.pg L.Δ_e8 := L.Δ_f3_ok
def L.e8_B (f_Path : ByteArray) (f_Lines : L.yb) (path : ByteArray) (K : Int → Prop) : Prop :=
  L.f3 f_Path path (fun r => K r)
structure L.e8 (f_Path : ByteArray) (f_Lines : L.yb) (path : ByteArray) (K : Int → Prop) : Prop where
  out : L.e8_B f_Path f_Lines path K
def L.e8_ss : List Sh := [.agg [.str, .ro .str], .str]
def L.e8_G (vs : List V) (K : V → List Ob → Prop) : Prop := L.e8 (gS ((gC (gA vs 0)).getD 0 .any)) (gR .str ((gC (gA vs 0)).getD 1 .any)) (gS (gA vs 1)) (fun r0 => K (.xi r0) [])
def L.e8_S : SemF := fun args K => argF L.e8_ss args fun a => L.e8_G a K
theorem L.e8_eq (f_Path : ByteArray) (f_Lines : L.yb) (path : ByteArray) (K : V → List Ob → Prop) : run L.pg L.Γ_e8 L.Δ_e8 .leaf .any Tryd.f45 [.agg [.x (.string f_Path), .ro .str f_Lines], .x (.string path)] K = L.e8_B f_Path f_Lines path (fun r0 => K (.xi r0) []) := by
  kernel_rfl
theorem L.e8_imp (vs : List V) (K : V → List Ob → Prop) : Imp (L.e8_G vs K) (run L.pg L.Γ_e8 L.Δ_e8 .leaf .any Tryd.f45 (mkL L.e8_ss 0 vs) K) :=
  Imp.of (Eq.trans (b := run L.pg L.Γ_e8 L.Δ_e8 .leaf .any Tryd.f45 [.agg [.x (.string (gS ((gC (gA vs 0)).getD 0 .any))), .ro .str (gR .str ((gC (gA vs 0)).getD 1 .any))], .x (.string (gS (gA vs 1)))] K) (by kernel_rfl) (L.e8_eq (gS ((gC (gA vs 0)).getD 0 .any)) (gR .str ((gC (gA vs 0)).getD 1 .any)) (gS (gA vs 1)) K)) fun h => (L.e8.out h)
theorem L.e8_ok : SoundFn L.pg 45 L.e8_S :=
  fn_ok (sem := run L.pg L.Γ_e8 L.Δ_e8 .leaf .any Tryd.f45) (ss := L.e8_ss) (G := L.e8_G) (run_ok L.Γ_e8_ok L.Δ_e8_ok Tryd.func45 (ann := .leaf) (annOk_leaf _)) L.e8_imp
def L.Γ_c1 : Ctx := ctxC L.Γ_e8 45 L.e8_S
theorem L.Γ_c1_ok : SoundG L.pg L.Γ_c1 := ctxC_ok L.Γ_e8_ok L.e8_ok
def L.Δ_c1 : CtxO := L.Δ_e8
theorem L.Δ_c1_ok : SoundGO L.pg L.Δ_c1 := L.Δ_e8_ok
def L.c1_L1_b (x1 : L.T9) (target1 : ByteArray) (i_ : Int) (j : Int) (self : Int → Int → Prop) (Kx0 : Int → Prop) : Prop :=
  (bif (decide (i_ < j)) then (0 ≤ (1 : Int)) ∧ (inB (i64 ((IntKind.wrap .u64 (i64 (i_ + j))).fdiv (2 ^ (min (1 : Int).toNat 64)))) x1.length) ∧ L.e8 ((x1.getD ((i64 ((IntKind.wrap .u64 (i64 (i_ + j))).fdiv (2 ^ (min (1 : Int).toNat 64)))).toNat) (ByteArray.empty, [])).1) ((x1.getD ((i64 ((IntKind.wrap .u64 (i64 (i_ + j))).fdiv (2 ^ (min (1 : Int).toNat 64)))).toNat) (ByteArray.empty, [])).2) target1 (fun r => (bif (decide (r < 0)) then self (i64 ((i64 ((IntKind.wrap .u64 (i64 (i_ + j))).fdiv (2 ^ (min (1 : Int).toNat 64)))) + 1)) j else self i_ (i64 ((IntKind.wrap .u64 (i64 (i_ + j))).fdiv (2 ^ (min (1 : Int).toNat 64)))))) else Kx0 i_)
def L.c1_L1_R (x1 : L.T9) (target1 : ByteArray) : Nat → Int → Int → (Int → Prop) → Prop
  | 0, _, _, _ => False
  | fu + 1, i_, j, Kx0 => L.c1_L1_b x1 target1 i_ j (fun i_ j => L.c1_L1_R x1 target1 fu i_ j Kx0) Kx0
structure L.c1_L1 (x1 : L.T9) (target1 : ByteArray) (i_ : Int) (j : Int) (Kx0 : Int → Prop) : Prop where
  out : ∃ fu, L.c1_L1_R x1 target1 fu i_ j Kx0
def L.c1_L1_d : LoopD := { base := 0, vecs := [], flds := [], keep := [0, 1, 2, 8, 9, 10], out := [0, 1, 2, 8, 9], rets := [6, 7], rv := [], rbase := 0 }
def L.c1_L1_ss : List Sh := [.ro L.ya, .str, .fn 45 [] [], .int .i64, .int .i64, .int .i64]
def L.c1_L1_os : List OSh := []
def L.c1_L1_G (vs : List V) (st : List Ob) (K : Ex → St) : Prop := L.c1_L1 (gR L.ya (gA vs 0)) (gS (gA vs 1)) (gI (gA vs 4)) (gI (gA vs 5)) (fun q0_ => K (.exit 0) (bld [0, 1, 2, 8, 9] [.ro L.ya (gR L.ya (gA vs 0)), .x (.string (gS (gA vs 1))), .fn (.func 45) [] [], .xi (gI (gA vs 3)), .xi q0_] 0 49) [])
def L.c1_L1_F (vs : List V) (st : List Ob) (K : Ex → St) : Prop := fitF L.c1_L1_ss L.c1_L1_os vs st (L.c1_L1_G vs st K)
theorem L.c1_L1_eq (x1 : L.T9) (target1 : ByteArray) (n : Int) (K : Ex → St) : ∀ (fu : Nat) (i_ : Int) (j : Int), L.c1_L1_R x1 target1 fu i_ j (fun q0_ => K (.exit 0) (bld [0, 1, 2, 8, 9] [.ro L.ya x1, .x (.string target1), .fn (.func 45) [] [], .xi n, .xi q0_] 0 49) []) = iterL (stepL (exec L.pg (CC L.pg L.Γ_c1 L.Δ_c1) (drawD L.pg L.Γ_c1 L.Δ_c1) .leaf (sub [true, true, true, false, false, false] (codeOf Tryd.f44))) 0 L.c1_L1_d K) fu (bld L.c1_L1_d.keep [.ro L.ya x1, .x (.string target1), .fn (.func 45) [] [], .xi n, .xi i_, .xi j] 0 49) [] := by
  intro fu
  induction fu with
  | zero => intros; rfl
  | succ fu ih =>
    intro i_ j
    have e : (fun i_ j => L.c1_L1_R x1 target1 fu i_ j (fun q0_ => K (.exit 0) (bld [0, 1, 2, 8, 9] [.ro L.ya x1, .x (.string target1), .fn (.func 45) [] [], .xi n, .xi q0_] 0 49) [])) = fun i_ j => iterL (stepL (exec L.pg (CC L.pg L.Γ_c1 L.Δ_c1) (drawD L.pg L.Γ_c1 L.Δ_c1) .leaf (sub [true, true, true, false, false, false] (codeOf Tryd.f44))) 0 L.c1_L1_d K) fu (bld L.c1_L1_d.keep [.ro L.ya x1, .x (.string target1), .fn (.func 45) [] [], .xi n, .xi i_, .xi j] 0 49) [] := by
      funext i_ j; exact ih i_ j
    show L.c1_L1_b x1 target1 i_ j (fun i_ j => L.c1_L1_R x1 target1 fu i_ j (fun q0_ => K (.exit 0) (bld [0, 1, 2, 8, 9] [.ro L.ya x1, .x (.string target1), .fn (.func 45) [] [], .xi n, .xi q0_] 0 49) [])) (fun q0_ => K (.exit 0) (bld [0, 1, 2, 8, 9] [.ro L.ya x1, .x (.string target1), .fn (.func 45) [] [], .xi n, .xi q0_] 0 49) []) = _
    rw [e]
    kernel_rfl
theorem L.c1_L1_imp (vs : List V) (st : List Ob) (K : Ex → St) (h : L.c1_L1_G vs st K) : ∃ fu, iterL (stepL (exec L.pg (CC L.pg L.Γ_c1 L.Δ_c1) (drawD L.pg L.Γ_c1 L.Δ_c1) .leaf (sub [true, true, true, false, false, false] (codeOf Tryd.f44))) 0 L.c1_L1_d K) fu (bld L.c1_L1_d.keep (mkL L.c1_L1_ss 0 vs) 0 49) (mkOs L.c1_L1_os 0 st) :=
  exMap (fun fu h => @Eq.mp _ _ (Eq.trans (L.c1_L1_eq (gR L.ya (gA vs 0)) (gS (gA vs 1)) (gI (gA vs 3)) K fu (gI (gA vs 4)) (gI (gA vs 5))) (by kernel_rfl)) h) (L.c1_L1.out h)
theorem L.c1_L1_ok : AnnOk L.pg (CC L.pg L.Γ_c1 L.Δ_c1) (drawD L.pg L.Γ_c1 L.Δ_c1) 0 (.lift L.c1_L1_d 49 L.c1_L1_F) (.loop (sub [true, true, true, false, false, false] (codeOf Tryd.f44))) :=
  lift_ok (an := .leaf) (ss := L.c1_L1_ss) (os := L.c1_L1_os) (G := L.c1_L1_G) rfl (Nat.le_of_ble_eq_true rfl) (annOk_leaf _) (L.c1_L1_imp)
def L.c1_B (x : L.T9) (target : ByteArray) (K : Int → Bool → Prop) : Prop :=
  L.c1_L1 x target 0 (x.length : Int) (fun i_ => ((((decide (i_ < (x.length : Int))) == true) = true → inB i_ x.length)) ∧ (bif (decide (i_ < (x.length : Int))) then L.e8 ((x.getD i_.toNat (ByteArray.empty, [])).1) ((x.getD i_.toNat (ByteArray.empty, [])).2) target (fun r => K i_ (bif true then (r == 0) else false)) else K i_ false))
structure L.c1 (x : L.T9) (target : ByteArray) (K : Int → Bool → Prop) : Prop where
  out : L.c1_B x target K
def L.c1_ss : List Sh := [.ro L.ya, .str, .fn 45 [] []]
def L.c1_G (vs : List V) (K : V → List Ob → Prop) : Prop := L.c1 (gR L.ya (gA vs 0)) (gS (gA vs 1)) (fun r0 r1 => K (.tup [.xi r0, .x (.bool r1)]) [])
def L.c1_S : SemF := fun args K => argF L.c1_ss args fun a => L.c1_G a K
theorem L.c1_eq (x : L.T9) (target : ByteArray) (K : V → List Ob → Prop) : run L.pg L.Γ_c1 L.Δ_c1 (.node .leaf (.node .leaf (.node .leaf (.node (.lift L.c1_L1_d 49 L.c1_L1_F) .leaf)))) .any Tryd.f44 [.ro L.ya x, .x (.string target), .fn (.func 45) [] []] K = L.c1_B x target (fun r0 r1 => K (.tup [.xi r0, .x (.bool r1)]) []) := by
  kernel_rfl
theorem L.c1_imp (vs : List V) (K : V → List Ob → Prop) : Imp (L.c1_G vs K) (run L.pg L.Γ_c1 L.Δ_c1 (.node .leaf (.node .leaf (.node .leaf (.node (.lift L.c1_L1_d 49 L.c1_L1_F) .leaf)))) .any Tryd.f44 (mkL L.c1_ss 0 vs) K) :=
  Imp.of (Eq.trans (b := run L.pg L.Γ_c1 L.Δ_c1 (.node .leaf (.node .leaf (.node .leaf (.node (.lift L.c1_L1_d 49 L.c1_L1_F) .leaf)))) .any Tryd.f44 [.ro L.ya (gR L.ya (gA vs 0)), .x (.string (gS (gA vs 1))), .fn (.func 45) [] []] K) (by kernel_rfl) (L.c1_eq (gR L.ya (gA vs 0)) (gS (gA vs 1)) K)) fun h => (L.c1.out h)
theorem L.c1_ok : SoundFn L.pg 44 L.c1_S :=
  fn_ok (sem := run L.pg L.Γ_c1 L.Δ_c1 (.node .leaf (.node .leaf (.node .leaf (.node (.lift L.c1_L1_d 49 L.c1_L1_F) .leaf)))) .any Tryd.f44) (ss := L.c1_ss) (G := L.c1_G) (run_ok L.Γ_c1_ok L.Δ_c1_ok Tryd.func44 (ann := (.node .leaf (.node .leaf (.node .leaf (.node (.lift L.c1_L1_d 49 L.c1_L1_F) .leaf))))) ⟨(annOk_leaf _), ⟨(annOk_leaf _), ⟨(annOk_leaf _), ⟨L.c1_L1_ok, (annOk_leaf _)⟩⟩⟩⟩) L.c1_imp
def L.Γ_c6 : Ctx := ctxA L.Γ_c1 44 L.c1_ss L.c1_G
theorem L.Γ_c6_ok : SoundG L.pg L.Γ_c6 := ctxA_ok L.Γ_c1_ok L.c1_ok
def L.Δ_c6 : CtxO := L.Δ_c1
theorem L.Δ_c6_ok : SoundGO L.pg L.Δ_c6 := L.Δ_c1_ok
def L.c6_B (files : L.T9) (path : ByteArray) (K : Int → Bool → Prop) : Prop :=
  L.c1 files path (fun r r1 => K r r1)
structure L.c6 (files : L.T9) (path : ByteArray) (K : Int → Bool → Prop) : Prop where
  out : L.c6_B files path K
def L.c6_ss : List Sh := [.ro L.ya, .str]
def L.c6_G (vs : List V) (K : V → List Ob → Prop) : Prop := L.c6 (gR L.ya (gA vs 0)) (gS (gA vs 1)) (fun r0 r1 => K (.tup [.xi r0, .x (.bool r1)]) [])
def L.c6_S : SemF := fun args K => argF L.c6_ss args fun a => L.c6_G a K
theorem L.c6_eq (files : L.T9) (path : ByteArray) (K : V → List Ob → Prop) : run L.pg L.Γ_c6 L.Δ_c6 .leaf .any Tryd.f24 [.ro L.ya files, .x (.string path)] K = L.c6_B files path (fun r0 r1 => K (.tup [.xi r0, .x (.bool r1)]) []) := by
  kernel_rfl
theorem L.c6_imp (vs : List V) (K : V → List Ob → Prop) : Imp (L.c6_G vs K) (run L.pg L.Γ_c6 L.Δ_c6 .leaf .any Tryd.f24 (mkL L.c6_ss 0 vs) K) :=
  Imp.of (Eq.trans (b := run L.pg L.Γ_c6 L.Δ_c6 .leaf .any Tryd.f24 [.ro L.ya (gR L.ya (gA vs 0)), .x (.string (gS (gA vs 1)))] K) (by kernel_rfl) (L.c6_eq (gR L.ya (gA vs 0)) (gS (gA vs 1)) K)) fun h => (L.c6.out h)
theorem L.c6_ok : SoundFn L.pg 24 L.c6_S :=
  fn_ok (sem := run L.pg L.Γ_c6 L.Δ_c6 .leaf .any Tryd.f24) (ss := L.c6_ss) (G := L.c6_G) (run_ok L.Γ_c6_ok L.Δ_c6_ok Tryd.func24 (ann := .leaf) (annOk_leaf _)) L.c6_imp
def L.Γ_c8 : Ctx := ctxC L.Γ_c6 24 L.c6_S
theorem L.Γ_c8_ok : SoundG L.pg L.Γ_c8 := ctxC_ok L.Γ_c6_ok L.c6_ok
def L.Δ_c8 : CtxO := L.Δ_c6
theorem L.Δ_c8_ok : SoundGO L.pg L.Δ_c8 := L.Δ_c6_ok
def L.c8_B (s : L.yb) (K : L.yb → Prop) : Prop :=
  (∀ b : Bool, (s.length ≠ 0 → b = false) → (bif b then K ([] : List ByteArray) else (fits (([] : List ByteArray).length + s.length)) ∧ K (([] : List ByteArray) ++ s)))
structure L.c8 (s : L.yb) (K : L.yb → Prop) : Prop where
  out : L.c8_B s K
def L.c8_ss : List Sh := [.ro .str]
def L.c8_G (vs : List V) (K : V → List Ob → Prop) : Prop := L.c8 (gR .str (gA vs 0)) (fun r0 => K (.vec 0) [.vec .str 0 r0])
def L.c8_S : SemF := fun args K => argF L.c8_ss args fun a => L.c8_G a K
theorem L.c8_eq (s : L.yb) (K : V → List Ob → Prop) : run L.pg L.Γ_c8 L.Δ_c8 .leaf (.sl .str) Tryd.f25 [.ro .str s] K = L.c8_B s (fun r0 => K (.vec 0) [.vec .str 0 r0]) := by
  kernel_rfl
theorem L.c8_imp (vs : List V) (K : V → List Ob → Prop) : Imp (L.c8_G vs K) (run L.pg L.Γ_c8 L.Δ_c8 .leaf (.sl .str) Tryd.f25 (mkL L.c8_ss 0 vs) K) :=
  Imp.of (Eq.trans (b := run L.pg L.Γ_c8 L.Δ_c8 .leaf (.sl .str) Tryd.f25 [.ro .str (gR .str (gA vs 0))] K) (by kernel_rfl) (L.c8_eq (gR .str (gA vs 0)) K)) fun h => (L.c8.out h)
theorem L.c8_ok : SoundFn L.pg 25 L.c8_S :=
  fn_ok (sem := run L.pg L.Γ_c8 L.Δ_c8 .leaf (.sl .str) Tryd.f25) (ss := L.c8_ss) (G := L.c8_G) (run_ok L.Γ_c8_ok L.Δ_c8_ok Tryd.func25 (ann := .leaf) (annOk_leaf _)) L.c8_imp
def L.Γ_e6 : Ctx := ctxC L.Γ_c8 25 L.c8_S
theorem L.Γ_e6_ok : SoundG L.pg L.Γ_e6 := ctxC_ok L.Γ_c8_ok L.c8_ok
def L.Δ_e6 : CtxO := L.Δ_c8
theorem L.Δ_e6_ok : SoundGO L.pg L.Δ_e6 := L.Δ_c8_ok
def L.e6_B (a : L.yb) (b : L.yb) (K : Int → Int → Prop) : Prop :=
  L.b2 a (fun rCode rIndex => (bif (!((rCode == 0) && ((rIndex == 0) && true))) then K rCode rIndex else L.d9 b (-2) (fun rCode1 rIndex1 => K rCode1 rIndex1)))
structure L.e6 (a : L.yb) (b : L.yb) (K : Int → Int → Prop) : Prop where
  out : L.e6_B a b K
def L.e6_ss : List Sh := [.ro .str, .ro .str]
def L.e6_G (vs : List V) (K : V → List Ob → Prop) : Prop := L.e6 (gR .str (gA vs 0)) (gR .str (gA vs 1)) (fun r0 r1 => K (.agg [.xi r0, .xi r1]) [])
def L.e6_S : SemF := fun args K => argF L.e6_ss args fun a => L.e6_G a K
theorem L.e6_eq (a : L.yb) (b : L.yb) (K : V → List Ob → Prop) : run L.pg L.Γ_e6 L.Δ_e6 .leaf .any Tryd.f20 [.ro .str a, .ro .str b] K = L.e6_B a b (fun r0 r1 => K (.agg [.xi r0, .xi r1]) []) := by
  kernel_rfl
theorem L.e6_imp (vs : List V) (K : V → List Ob → Prop) : Imp (L.e6_G vs K) (run L.pg L.Γ_e6 L.Δ_e6 .leaf .any Tryd.f20 (mkL L.e6_ss 0 vs) K) :=
  Imp.of (Eq.trans (b := run L.pg L.Γ_e6 L.Δ_e6 .leaf .any Tryd.f20 [.ro .str (gR .str (gA vs 0)), .ro .str (gR .str (gA vs 1))] K) (by kernel_rfl) (L.e6_eq (gR .str (gA vs 0)) (gR .str (gA vs 1)) K)) fun h => (L.e6.out h)
theorem L.e6_ok : SoundFn L.pg 20 L.e6_S :=
  fn_ok (sem := run L.pg L.Γ_e6 L.Δ_e6 .leaf .any Tryd.f20) (ss := L.e6_ss) (G := L.e6_G) (run_ok L.Γ_e6_ok L.Δ_e6_ok Tryd.func20 (ann := .leaf) (annOk_leaf _)) L.e6_imp
def L.Γ_d5 : Ctx := ctxC L.Γ_e6 20 L.e6_S
theorem L.Γ_d5_ok : SoundG L.pg L.Γ_d5 := ctxC_ok L.Γ_e6_ok L.e6_ok
def L.Δ_d5 : CtxO := L.Δ_e6
theorem L.Δ_d5_ok : SoundGO L.pg L.Δ_d5 := L.Δ_e6_ok
def L.d5_B (i_ : Int) (j : Int) (c : (List Int)) (c1 : Int) (K : Int → Prop) : Prop :=
  (inB (i64 ((i64 (i_ * c1)) + j)) c.length) ∧ K (c.getD ((i64 ((i64 (i_ * c1)) + j)).toNat) 0)
structure L.d5 (i_ : Int) (j : Int) (c : (List Int)) (c1 : Int) (K : Int → Prop) : Prop where
  out : L.d5_B i_ j c c1 K
def L.d5_ss : List Sh := [.int .i64, .int .i64, .rc [.ro (.int .i64)] 0, .rc [.int .i64] 0]
def L.d5_G (vs : List V) (K : V → List Ob → Prop) : Prop := L.d5 (gI (gA vs 0)) (gI (gA vs 1)) (gR (.int .i64) ((gC (gA vs 2)).getD 0 .any)) (gI ((gC (gA vs 3)).getD 0 .any)) (fun r0 => K (.xi r0) [])
def L.d5_S : SemF := fun args K => argF L.d5_ss args fun a => L.d5_G a K
theorem L.d5_eq (i_ : Int) (j : Int) (c : (List Int)) (c1 : Int) (K : V → List Ob → Prop) : run L.pg L.Γ_d5 L.Δ_d5 .leaf .any Tryd.f41 [.xi i_, .xi j, .rc [.ro (.int .i64) c] 0, .rc [.xi c1] 0] K = L.d5_B i_ j c c1 (fun r0 => K (.xi r0) []) := by
  kernel_rfl
theorem L.d5_imp (vs : List V) (K : V → List Ob → Prop) : Imp (L.d5_G vs K) (run L.pg L.Γ_d5 L.Δ_d5 .leaf .any Tryd.f41 (mkL L.d5_ss 0 vs) K) :=
  Imp.of (Eq.trans (b := run L.pg L.Γ_d5 L.Δ_d5 .leaf .any Tryd.f41 [.xi (gI (gA vs 0)), .xi (gI (gA vs 1)), .rc [.ro (.int .i64) (gR (.int .i64) ((gC (gA vs 2)).getD 0 .any))] 0, .rc [.xi (gI ((gC (gA vs 3)).getD 0 .any))] 0] K) (by kernel_rfl) (L.d5_eq (gI (gA vs 0)) (gI (gA vs 1)) (gR (.int .i64) ((gC (gA vs 2)).getD 0 .any)) (gI ((gC (gA vs 3)).getD 0 .any)) K)) fun h => (L.d5.out h)
theorem L.d5_ok : SoundFn L.pg 41 L.d5_S :=
  fn_ok (sem := run L.pg L.Γ_d5 L.Δ_d5 .leaf .any Tryd.f41) (ss := L.d5_ss) (G := L.d5_G) (run_ok L.Γ_d5_ok L.Δ_d5_ok Tryd.func41 (ann := .leaf) (annOk_leaf _)) L.d5_imp
def L.Γ_a1 : Ctx := ctxA L.Γ_d5 41 L.d5_ss L.d5_G
theorem L.Γ_a1_ok : SoundG L.pg L.Γ_a1 := ctxA_ok L.Γ_d5_ok L.d5_ok
def L.Δ_a1 : CtxO := L.Δ_d5
theorem L.Δ_a1_ok : SoundGO L.pg L.Δ_a1 := L.Δ_d5_ok
def L.a1_L1_b (a1 : L.yb) (b1 : L.yb) (i_ : Int) (w : Int) (j : Int) (m1 : (List Int)) (self : Int → (List Int) → Prop) (Kx2 : (List Int) → Prop) : Prop :=
  (bif (decide (j ≥ 0)) then L.d5 (i64 (i_ + 1)) j m1 w (fun r => L.d5 i_ (i64 (j + 1)) m1 w (fun r1 => (inB i_ a1.length) ∧ (inB j b1.length) ∧ (bif ((a1.getD i_.toNat ByteArray.empty).toList == (b1.getD j.toNat ByteArray.empty).toList) then L.d5 (i64 (i_ + 1)) (i64 (j + 1)) m1 w (fun r2 => (inB (i64 ((i64 (i_ * w)) + j)) m1.length) ∧ self (i64 (j - 1)) (m1.set ((i64 ((i64 (i_ * w)) + j)).toNat) (i64 (r2 + 1)))) else (inB (i64 ((i64 (i_ * w)) + j)) m1.length) ∧ self (i64 (j - 1)) (m1.set ((i64 ((i64 (i_ * w)) + j)).toNat) (amx r r1))))) else Kx2 m1)
def L.a1_L1_R (a1 : L.yb) (b1 : L.yb) (i_ : Int) (w : Int) : Nat → Int → (List Int) → ((List Int) → Prop) → Prop
  | 0, _, _, _ => False
  | fu + 1, j, m1, Kx2 => L.a1_L1_b a1 b1 i_ w j m1 (fun j m1 => L.a1_L1_R a1 b1 i_ w fu j m1 Kx2) Kx2
structure L.a1_L1 (a1 : L.yb) (b1 : L.yb) (i_ : Int) (w : Int) (j : Int) (m1 : (List Int)) (Kx2 : (List Int) → Prop) : Prop where
  out : ∃ fu, L.a1_L1_R a1 b1 i_ w fu j m1 Kx2
def L.a1_L1_d : LoopD := { base := 3, vecs := [], flds := [], keep := [0, 1, 5, 6, 7, 8, 9], out := [0, 1, 5, 6, 7, 8], rets := [4], rv := [], rbase := 3 }
def L.a1_L1_ss : List Sh := [.ro .str, .ro .str, .cl 0 0, .cl 2 0, .fn 41 [] [.cl 2 0, .cl 0 0], .int .i64, .int .i64]
def L.a1_L1_os : List OSh := [.cells [.int .i64], .vec (.int .i64) true, .cells [.vec 1]]
def L.a1_L1_G (vs : List V) (st : List Ob) (K : Ex → St) : Prop := L.a1_L1 (gR .str (gA vs 0)) (gR .str (gA vs 1)) (gI (gA vs 5)) (cI st 0 0) (gI (gA vs 6)) (oX (.int .i64) (gD st 1)) (fun q0_ => K (.exit 2) (bld [0, 1, 5, 6, 7, 8] [.ro .str (gR .str (gA vs 0)), .ro .str (gR .str (gA vs 1)), .cl 0 0, .cl 2 0, .fn (.func 41) [] [.cl 2 0, .cl 0 0], .xi (gI (gA vs 5))] 0 147) [.cells [.xi (cI st 0 0)], .vec (.int .i64) 0 q0_, .cells [.vec 1]])
def L.a1_L1_F (vs : List V) (st : List Ob) (K : Ex → St) : Prop := fitF L.a1_L1_ss L.a1_L1_os vs st (L.a1_L1_G vs st K)
theorem L.a1_L1_eq (a1 : L.yb) (b1 : L.yb) (i_ : Int) (w : Int) (K : Ex → St) : ∀ (fu : Nat) (j : Int) (m1 : (List Int)), L.a1_L1_R a1 b1 i_ w fu j m1 (fun q0_ => K (.exit 2) (bld [0, 1, 5, 6, 7, 8] [.ro .str a1, .ro .str b1, .cl 0 0, .cl 2 0, .fn (.func 41) [] [.cl 2 0, .cl 0 0], .xi i_] 0 147) [.cells [.xi w], .vec (.int .i64) 0 q0_, .cells [.vec 1]]) = iterL (stepL (exec L.pg (CC L.pg L.Γ_a1 L.Δ_a1) (drawD L.pg L.Γ_a1 L.Δ_a1) .leaf (sub [true, true, true, true, false, true, false, false, true, false, false, true, false, false] (codeOf Tryd.f21))) 3 L.a1_L1_d K) fu (bld L.a1_L1_d.keep [.ro .str a1, .ro .str b1, .cl 0 0, .cl 2 0, .fn (.func 41) [] [.cl 2 0, .cl 0 0], .xi i_, .xi j] 0 147) [.cells [.xi w], .vec (.int .i64) 0 m1, .cells [.vec 1]] := by
  intro fu
  induction fu with
  | zero => intros; rfl
  | succ fu ih =>
    intro j m1
    have e : (fun j m1 => L.a1_L1_R a1 b1 i_ w fu j m1 (fun q0_ => K (.exit 2) (bld [0, 1, 5, 6, 7, 8] [.ro .str a1, .ro .str b1, .cl 0 0, .cl 2 0, .fn (.func 41) [] [.cl 2 0, .cl 0 0], .xi i_] 0 147) [.cells [.xi w], .vec (.int .i64) 0 q0_, .cells [.vec 1]])) = fun j m1 => iterL (stepL (exec L.pg (CC L.pg L.Γ_a1 L.Δ_a1) (drawD L.pg L.Γ_a1 L.Δ_a1) .leaf (sub [true, true, true, true, false, true, false, false, true, false, false, true, false, false] (codeOf Tryd.f21))) 3 L.a1_L1_d K) fu (bld L.a1_L1_d.keep [.ro .str a1, .ro .str b1, .cl 0 0, .cl 2 0, .fn (.func 41) [] [.cl 2 0, .cl 0 0], .xi i_, .xi j] 0 147) [.cells [.xi w], .vec (.int .i64) 0 m1, .cells [.vec 1]] := by
      funext j m1; exact ih j m1
    show L.a1_L1_b a1 b1 i_ w j m1 (fun j m1 => L.a1_L1_R a1 b1 i_ w fu j m1 (fun q0_ => K (.exit 2) (bld [0, 1, 5, 6, 7, 8] [.ro .str a1, .ro .str b1, .cl 0 0, .cl 2 0, .fn (.func 41) [] [.cl 2 0, .cl 0 0], .xi i_] 0 147) [.cells [.xi w], .vec (.int .i64) 0 q0_, .cells [.vec 1]])) (fun q0_ => K (.exit 2) (bld [0, 1, 5, 6, 7, 8] [.ro .str a1, .ro .str b1, .cl 0 0, .cl 2 0, .fn (.func 41) [] [.cl 2 0, .cl 0 0], .xi i_] 0 147) [.cells [.xi w], .vec (.int .i64) 0 q0_, .cells [.vec 1]]) = _
    rw [e]
    kernel_rfl
theorem L.a1_L1_imp (vs : List V) (st : List Ob) (K : Ex → St) (h : L.a1_L1_G vs st K) : ∃ fu, iterL (stepL (exec L.pg (CC L.pg L.Γ_a1 L.Δ_a1) (drawD L.pg L.Γ_a1 L.Δ_a1) .leaf (sub [true, true, true, true, false, true, false, false, true, false, false, true, false, false] (codeOf Tryd.f21))) 3 L.a1_L1_d K) fu (bld L.a1_L1_d.keep (mkL L.a1_L1_ss 0 vs) 0 147) (mkOs L.a1_L1_os 0 st) :=
  exMap (fun fu h => @Eq.mp _ _ (Eq.trans (L.a1_L1_eq (gR .str (gA vs 0)) (gR .str (gA vs 1)) (gI (gA vs 5)) (cI st 0 0) K fu (gI (gA vs 6)) (oX (.int .i64) (gD st 1))) (by kernel_rfl)) h) (L.a1_L1.out h)
theorem L.a1_L1_ok : AnnOk L.pg (CC L.pg L.Γ_a1 L.Δ_a1) (drawD L.pg L.Γ_a1 L.Δ_a1) 0 (.lift L.a1_L1_d 147 L.a1_L1_F) (.loop (sub [true, true, true, true, false, true, false, false, true, false, false, true, false, false] (codeOf Tryd.f21))) :=
  lift_ok (an := .leaf) (ss := L.a1_L1_ss) (os := L.a1_L1_os) (G := L.a1_L1_G) rfl (Nat.le_of_ble_eq_true rfl) (annOk_leaf _) (L.a1_L1_imp)
def L.a1_L2_b (a1 : L.yb) (b1 : L.yb) (w : Int) (i_ : Int) (m1 : (List Int)) (self : Int → (List Int) → Prop) (Kx0 : (List Int) → Prop) : Prop :=
  (bif (decide (i_ ≥ 0)) then L.a1_L1 a1 b1 i_ w (i64 ((b1.length : Int) - 1)) m1 (fun m => self (i64 (i_ - 1)) m) else Kx0 m1)
def L.a1_L2_R (a1 : L.yb) (b1 : L.yb) (w : Int) : Nat → Int → (List Int) → ((List Int) → Prop) → Prop
  | 0, _, _, _ => False
  | fu + 1, i_, m1, Kx0 => L.a1_L2_b a1 b1 w i_ m1 (fun i_ m1 => L.a1_L2_R a1 b1 w fu i_ m1 Kx0) Kx0
structure L.a1_L2 (a1 : L.yb) (b1 : L.yb) (w : Int) (i_ : Int) (m1 : (List Int)) (Kx0 : (List Int) → Prop) : Prop where
  out : ∃ fu, L.a1_L2_R a1 b1 w fu i_ m1 Kx0
def L.a1_L2_d : LoopD := { base := 3, vecs := [], flds := [], keep := [0, 1, 5, 6, 7, 8], out := [0, 1, 7], rets := [4], rv := [], rbase := 0 }
def L.a1_L2_ss : List Sh := [.ro .str, .ro .str, .cl 0 0, .cl 2 0, .fn 41 [] [.cl 2 0, .cl 0 0], .int .i64]
def L.a1_L2_os : List OSh := [.cells [.int .i64], .vec (.int .i64) true, .cells [.vec 1]]
def L.a1_L2_G (vs : List V) (st : List Ob) (K : Ex → St) : Prop := L.a1_L2 (gR .str (gA vs 0)) (gR .str (gA vs 1)) (cI st 0 0) (gI (gA vs 5)) (oX (.int .i64) (gD st 1)) (fun q0_ => K (.exit 0) (bld [0, 1, 7] [.ro .str (gR .str (gA vs 0)), .ro .str (gR .str (gA vs 1)), .fn (.func 41) [] [.cl 2 0, .cl 0 0]] 0 147) [.cells [.xi (cI st 0 0)], .vec (.int .i64) 0 q0_, .cells [.vec 1]])
def L.a1_L2_F (vs : List V) (st : List Ob) (K : Ex → St) : Prop := fitF L.a1_L2_ss L.a1_L2_os vs st (L.a1_L2_G vs st K)
theorem L.a1_L2_eq (a1 : L.yb) (b1 : L.yb) (w : Int) (K : Ex → St) : ∀ (fu : Nat) (i_ : Int) (m1 : (List Int)), L.a1_L2_R a1 b1 w fu i_ m1 (fun q0_ => K (.exit 0) (bld [0, 1, 7] [.ro .str a1, .ro .str b1, .fn (.func 41) [] [.cl 2 0, .cl 0 0]] 0 147) [.cells [.xi w], .vec (.int .i64) 0 q0_, .cells [.vec 1]]) = iterL (stepL (exec L.pg (CC L.pg L.Γ_a1 L.Δ_a1) (drawD L.pg L.Γ_a1 L.Δ_a1) (.node .leaf (.node (.node .leaf (.lift L.a1_L1_d 147 L.a1_L1_F)) .leaf)) (sub [true, true, true, true, false, true, false, false] (codeOf Tryd.f21))) 3 L.a1_L2_d K) fu (bld L.a1_L2_d.keep [.ro .str a1, .ro .str b1, .cl 0 0, .cl 2 0, .fn (.func 41) [] [.cl 2 0, .cl 0 0], .xi i_] 0 147) [.cells [.xi w], .vec (.int .i64) 0 m1, .cells [.vec 1]] := by
  intro fu
  induction fu with
  | zero => intros; rfl
  | succ fu ih =>
    intro i_ m1
    have e : (fun i_ m1 => L.a1_L2_R a1 b1 w fu i_ m1 (fun q0_ => K (.exit 0) (bld [0, 1, 7] [.ro .str a1, .ro .str b1, .fn (.func 41) [] [.cl 2 0, .cl 0 0]] 0 147) [.cells [.xi w], .vec (.int .i64) 0 q0_, .cells [.vec 1]])) = fun i_ m1 => iterL (stepL (exec L.pg (CC L.pg L.Γ_a1 L.Δ_a1) (drawD L.pg L.Γ_a1 L.Δ_a1) (.node .leaf (.node (.node .leaf (.lift L.a1_L1_d 147 L.a1_L1_F)) .leaf)) (sub [true, true, true, true, false, true, false, false] (codeOf Tryd.f21))) 3 L.a1_L2_d K) fu (bld L.a1_L2_d.keep [.ro .str a1, .ro .str b1, .cl 0 0, .cl 2 0, .fn (.func 41) [] [.cl 2 0, .cl 0 0], .xi i_] 0 147) [.cells [.xi w], .vec (.int .i64) 0 m1, .cells [.vec 1]] := by
      funext i_ m1; exact ih i_ m1
    show L.a1_L2_b a1 b1 w i_ m1 (fun i_ m1 => L.a1_L2_R a1 b1 w fu i_ m1 (fun q0_ => K (.exit 0) (bld [0, 1, 7] [.ro .str a1, .ro .str b1, .fn (.func 41) [] [.cl 2 0, .cl 0 0]] 0 147) [.cells [.xi w], .vec (.int .i64) 0 q0_, .cells [.vec 1]])) (fun q0_ => K (.exit 0) (bld [0, 1, 7] [.ro .str a1, .ro .str b1, .fn (.func 41) [] [.cl 2 0, .cl 0 0]] 0 147) [.cells [.xi w], .vec (.int .i64) 0 q0_, .cells [.vec 1]]) = _
    rw [e]
    kernel_rfl
theorem L.a1_L2_imp (vs : List V) (st : List Ob) (K : Ex → St) (h : L.a1_L2_G vs st K) : ∃ fu, iterL (stepL (exec L.pg (CC L.pg L.Γ_a1 L.Δ_a1) (drawD L.pg L.Γ_a1 L.Δ_a1) (.node .leaf (.node (.node .leaf (.lift L.a1_L1_d 147 L.a1_L1_F)) .leaf)) (sub [true, true, true, true, false, true, false, false] (codeOf Tryd.f21))) 3 L.a1_L2_d K) fu (bld L.a1_L2_d.keep (mkL L.a1_L2_ss 0 vs) 0 147) (mkOs L.a1_L2_os 0 st) :=
  exMap (fun fu h => @Eq.mp _ _ (Eq.trans (L.a1_L2_eq (gR .str (gA vs 0)) (gR .str (gA vs 1)) (cI st 0 0) K fu (gI (gA vs 5)) (oX (.int .i64) (gD st 1))) (by kernel_rfl)) h) (L.a1_L2.out h)
theorem L.a1_L2_ok : AnnOk L.pg (CC L.pg L.Γ_a1 L.Δ_a1) (drawD L.pg L.Γ_a1 L.Δ_a1) 0 (.lift L.a1_L2_d 147 L.a1_L2_F) (.loop (sub [true, true, true, true, false, true, false, false] (codeOf Tryd.f21))) :=
  lift_ok (an := (.node .leaf (.node (.node .leaf (.lift L.a1_L1_d 147 L.a1_L1_F)) .leaf))) (ss := L.a1_L2_ss) (os := L.a1_L2_os) (G := L.a1_L2_G) rfl (Nat.le_of_ble_eq_true rfl) ⟨(annOk_leaf _), ⟨⟨(annOk_leaf _), L.a1_L1_ok⟩, (annOk_leaf _)⟩⟩ (L.a1_L2_imp)
def L.a1_J1_B (i_ : Int) (j : Int) (v117 : Bool) (out : (List Int)) (Kn : Int → Int → (List Int) → Prop) : Prop :=
  (bif v117 then (fits (out.length + ([1] : List Int).length)) ∧ Kn (i64 (i_ + 1)) j (out ++ ([1] : List Int)) else (fits (out.length + ([2] : List Int).length)) ∧ Kn i_ (i64 (j + 1)) (out ++ ([2] : List Int)))
structure L.a1_J1 (i_ : Int) (j : Int) (v117 : Bool) (out : (List Int)) (Kn : Int → Int → (List Int) → Prop) : Prop where
  out : L.a1_J1_B i_ j v117 out Kn
def L.a1_J1_d : CutD := { base := 4, vecs := [], flds := [], keep := [0, 1, 7, 11, 12, 13, 117], out := [0, 1, 7, 11, 12, 13], rets := [4], ovecs := [(11, .mv (.int .i64))], oflds := [], rv := [], rbase := 3 }
def L.a1_J1_ss : List Sh := [.ro .str, .ro .str, .fn 41 [] [.cl 2 0, .cl 0 0], .vec 3, .int .i64, .int .i64, .bool]
def L.a1_J1_os : List OSh := [.cells [.int .i64], .vec (.int .i64) true, .cells [.vec 1], .vec (.int .i64) true]
def L.a1_J1_G (vs : List V) (st : List Ob) (K : Ex → St) : Prop := L.a1_J1 (gI (gA vs 4)) (gI (gA vs 5)) (gB (gA vs 6)) (oX (.int .i64) (gD st 3)) (fun q0_ q1_ q2_ => K .normal (bld [0, 1, 7, 11, 12, 13] [.ro .str (gR .str (gA vs 0)), .ro .str (gR .str (gA vs 1)), .fn (.func 41) [] [.cl 2 0, .cl 0 0], .vec 4, .xi q0_, .xi q1_] 0 147) [.cells [.xi (cI st 0 0)], .vec (.int .i64) 0 (oX (.int .i64) (gD st 1)), .cells [.vec 1], .dead, .vec (.int .i64) 0 q2_])
def L.a1_J1_F (vs : List V) (st : List Ob) (K : Ex → St) : Prop := fitF L.a1_J1_ss L.a1_J1_os vs st (L.a1_J1_G vs st K)
theorem L.a1_J1_eq (a1 : L.yb) (b1 : L.yb) (i_ : Int) (j : Int) (v117 : Bool) (m0 : Int) (m1 : (List Int)) (out : (List Int)) (K : Ex → St) : L.a1_J1_B i_ j v117 out (fun q0_ q1_ q2_ => K .normal (bld [0, 1, 7, 11, 12, 13] [.ro .str a1, .ro .str b1, .fn (.func 41) [] [.cl 2 0, .cl 0 0], .vec 4, .xi q0_, .xi q1_] 0 147) [.cells [.xi m0], .vec (.int .i64) 0 m1, .cells [.vec 1], .dead, .vec (.int .i64) 0 q2_]) = exec L.pg (CC L.pg L.Γ_a1 L.Δ_a1) (drawD L.pg L.Γ_a1 L.Δ_a1) .leaf (sub [true, true, true, true, true, true, false, true, false, false, true, false, false, true, true, true] (codeOf Tryd.f21)) (bld L.a1_J1_d.keep [.ro .str a1, .ro .str b1, .fn (.func 41) [] [.cl 2 0, .cl 0 0], .vec 3, .xi i_, .xi j, .x (.bool v117)] 0 147) [.cells [.xi m0], .vec (.int .i64) 0 m1, .cells [.vec 1], .vec (.int .i64) 0 out] (cutK L.a1_J1_d K) := by
  kernel_rfl
theorem L.a1_J1_ok (vs : List V) (st : List Ob) (K : Ex → St) : Imp (L.a1_J1_G vs st K) (exec L.pg (CC L.pg L.Γ_a1 L.Δ_a1) (drawD L.pg L.Γ_a1 L.Δ_a1) .leaf (sub [true, true, true, true, true, true, false, true, false, false, true, false, false, true, true, true] (codeOf Tryd.f21)) (bld L.a1_J1_d.keep (mkL L.a1_J1_ss 0 vs) 0 147) (mkOs L.a1_J1_os 0 st) (cutK L.a1_J1_d K)) :=
  Imp.of (Eq.trans (b := exec L.pg (CC L.pg L.Γ_a1 L.Δ_a1) (drawD L.pg L.Γ_a1 L.Δ_a1) .leaf (sub [true, true, true, true, true, true, false, true, false, false, true, false, false, true, true, true] (codeOf Tryd.f21)) (bld L.a1_J1_d.keep [.ro .str (gR .str (gA vs 0)), .ro .str (gR .str (gA vs 1)), .fn (.func 41) [] [.cl 2 0, .cl 0 0], .vec 3, .xi (gI (gA vs 4)), .xi (gI (gA vs 5)), .x (.bool (gB (gA vs 6)))] 0 147) [.cells [.xi (cI st 0 0)], .vec (.int .i64) 0 (oX (.int .i64) (gD st 1)), .cells [.vec 1], .vec (.int .i64) 0 (oX (.int .i64) (gD st 3))] (cutK L.a1_J1_d K)) (by kernel_rfl) (Eq.symm (L.a1_J1_eq (gR .str (gA vs 0)) (gR .str (gA vs 1)) (gI (gA vs 4)) (gI (gA vs 5)) (gB (gA vs 6)) (cI st 0 0) (oX (.int .i64) (gD st 1)) (oX (.int .i64) (gD st 3)) K))) fun h => (L.a1_J1.out h)
def L.a1_L3_b (a1 : L.yb) (b1 : L.yb) (m0 : Int) (m1 : (List Int)) (i_ : Int) (j : Int) (out : (List Int)) (self : Int → Int → (List Int) → Prop) (Kx4 : (List Int) → Prop) : Prop :=
  (bif (bif (decide (i_ < (a1.length : Int))) then true else (decide (j < (b1.length : Int)))) then ((((bif (decide (i_ < (a1.length : Int))) then (decide (j < (b1.length : Int))) else false) == true) = true → inB i_ a1.length)) ∧ ((((bif (decide (i_ < (a1.length : Int))) then (decide (j < (b1.length : Int))) else false) == true) = true → inB j b1.length)) ∧ (bif (bif (bif (decide (i_ < (a1.length : Int))) then (decide (j < (b1.length : Int))) else false) then ((a1.getD i_.toNat ByteArray.empty).toList == (b1.getD j.toNat ByteArray.empty).toList) else false) then (fits (out.length + ([0] : List Int).length)) ∧ self (i64 (i_ + 1)) (i64 (j + 1)) (out ++ ([0] : List Int)) else (bif (j == (b1.length : Int)) then L.a1_J1 i_ j true out self else (bif (decide (i_ < (a1.length : Int))) then L.d5 (i64 (i_ + 1)) j m1 m0 (fun r => L.d5 i_ (i64 (j + 1)) m1 m0 (fun r1 => L.a1_J1 i_ j (bif false then true else (bif true then (decide (r ≥ r1)) else false)) out self)) else L.a1_J1 i_ j (bif false then true else false) out self))) else Kx4 out)
def L.a1_L3_R (a1 : L.yb) (b1 : L.yb) (m0 : Int) (m1 : (List Int)) : Nat → Int → Int → (List Int) → ((List Int) → Prop) → Prop
  | 0, _, _, _, _ => False
  | fu + 1, i_, j, out, Kx4 => L.a1_L3_b a1 b1 m0 m1 i_ j out (fun i_ j out => L.a1_L3_R a1 b1 m0 m1 fu i_ j out Kx4) Kx4
structure L.a1_L3 (a1 : L.yb) (b1 : L.yb) (m0 : Int) (m1 : (List Int)) (i_ : Int) (j : Int) (out : (List Int)) (Kx4 : (List Int) → Prop) : Prop where
  out : ∃ fu, L.a1_L3_R a1 b1 m0 m1 fu i_ j out Kx4
def L.a1_L3_d : LoopD := { base := 3, vecs := [(11, .sl (.int .i64))], flds := [], keep := [0, 1, 7, 11, 12, 13], out := [11], rets := [4], rv := [], rbase := 0 }
def L.a1_L3_ss : List Sh := [.ro .str, .ro .str, .fn 41 [] [.cl 2 0, .cl 0 0], .vec 3, .int .i64, .int .i64]
def L.a1_L3_os : List OSh := [.cells [.int .i64], .vec (.int .i64) true, .cells [.vec 1], .vec (.int .i64) true]
def L.a1_L3_G (vs : List V) (st : List Ob) (K : Ex → St) : Prop := L.a1_L3 (gR .str (gA vs 0)) (gR .str (gA vs 1)) (cI st 0 0) (oX (.int .i64) (gD st 1)) (gI (gA vs 4)) (gI (gA vs 5)) (oX (.int .i64) (gD st 3)) (fun q0_ => K (.exit 4) (bld [11] [.vec 3] 0 147) [.cells [.xi (cI st 0 0)], .vec (.int .i64) 0 (oX (.int .i64) (gD st 1)), .cells [.vec 1], .vec (.int .i64) 0 q0_])
def L.a1_L3_F (vs : List V) (st : List Ob) (K : Ex → St) : Prop := fitF L.a1_L3_ss L.a1_L3_os vs st (L.a1_L3_G vs st K)
theorem L.a1_L3_eq (a1 : L.yb) (b1 : L.yb) (m0 : Int) (m1 : (List Int)) (K : Ex → St) : ∀ (fu : Nat) (i_ : Int) (j : Int) (out : (List Int)), L.a1_L3_R a1 b1 m0 m1 fu i_ j out (fun q0_ => K (.exit 4) (bld [11] [.vec 3] 0 147) [.cells [.xi m0], .vec (.int .i64) 0 m1, .cells [.vec 1], .vec (.int .i64) 0 q0_]) = iterL (stepL (exec L.pg (CC L.pg L.Γ_a1 L.Δ_a1) (drawD L.pg L.Γ_a1 L.Δ_a1) (.node .leaf (.node .leaf (.node .leaf (.cut .leaf L.a1_J1_d 147 L.a1_J1_F)))) (sub [true, true, true, true, true, true, false, true, false, false] (codeOf Tryd.f21))) 3 L.a1_L3_d K) fu (bld L.a1_L3_d.keep [.ro .str a1, .ro .str b1, .fn (.func 41) [] [.cl 2 0, .cl 0 0], .vec 3, .xi i_, .xi j] 0 147) [.cells [.xi m0], .vec (.int .i64) 0 m1, .cells [.vec 1], .vec (.int .i64) 0 out] := by
  intro fu
  induction fu with
  | zero => intros; rfl
  | succ fu ih =>
    intro i_ j out
    have e : (fun i_ j out => L.a1_L3_R a1 b1 m0 m1 fu i_ j out (fun q0_ => K (.exit 4) (bld [11] [.vec 3] 0 147) [.cells [.xi m0], .vec (.int .i64) 0 m1, .cells [.vec 1], .vec (.int .i64) 0 q0_])) = fun i_ j out => iterL (stepL (exec L.pg (CC L.pg L.Γ_a1 L.Δ_a1) (drawD L.pg L.Γ_a1 L.Δ_a1) (.node .leaf (.node .leaf (.node .leaf (.cut .leaf L.a1_J1_d 147 L.a1_J1_F)))) (sub [true, true, true, true, true, true, false, true, false, false] (codeOf Tryd.f21))) 3 L.a1_L3_d K) fu (bld L.a1_L3_d.keep [.ro .str a1, .ro .str b1, .fn (.func 41) [] [.cl 2 0, .cl 0 0], .vec 3, .xi i_, .xi j] 0 147) [.cells [.xi m0], .vec (.int .i64) 0 m1, .cells [.vec 1], .vec (.int .i64) 0 out] := by
      funext i_ j out; exact ih i_ j out
    show L.a1_L3_b a1 b1 m0 m1 i_ j out (fun i_ j out => L.a1_L3_R a1 b1 m0 m1 fu i_ j out (fun q0_ => K (.exit 4) (bld [11] [.vec 3] 0 147) [.cells [.xi m0], .vec (.int .i64) 0 m1, .cells [.vec 1], .vec (.int .i64) 0 q0_])) (fun q0_ => K (.exit 4) (bld [11] [.vec 3] 0 147) [.cells [.xi m0], .vec (.int .i64) 0 m1, .cells [.vec 1], .vec (.int .i64) 0 q0_]) = _
    rw [e]
    kernel_rfl
theorem L.a1_L3_imp (vs : List V) (st : List Ob) (K : Ex → St) (h : L.a1_L3_G vs st K) : ∃ fu, iterL (stepL (exec L.pg (CC L.pg L.Γ_a1 L.Δ_a1) (drawD L.pg L.Γ_a1 L.Δ_a1) (.node .leaf (.node .leaf (.node .leaf (.cut .leaf L.a1_J1_d 147 L.a1_J1_F)))) (sub [true, true, true, true, true, true, false, true, false, false] (codeOf Tryd.f21))) 3 L.a1_L3_d K) fu (bld L.a1_L3_d.keep (mkL L.a1_L3_ss 0 vs) 0 147) (mkOs L.a1_L3_os 0 st) :=
  exMap (fun fu h => @Eq.mp _ _ (Eq.trans (L.a1_L3_eq (gR .str (gA vs 0)) (gR .str (gA vs 1)) (cI st 0 0) (oX (.int .i64) (gD st 1)) K fu (gI (gA vs 4)) (gI (gA vs 5)) (oX (.int .i64) (gD st 3))) (by kernel_rfl)) h) (L.a1_L3.out h)
theorem L.a1_L3_ok : AnnOk L.pg (CC L.pg L.Γ_a1 L.Δ_a1) (drawD L.pg L.Γ_a1 L.Δ_a1) 0 (.lift L.a1_L3_d 147 L.a1_L3_F) (.loop (sub [true, true, true, true, true, true, false, true, false, false] (codeOf Tryd.f21))) :=
  lift_ok (an := (.node .leaf (.node .leaf (.node .leaf (.cut .leaf L.a1_J1_d 147 L.a1_J1_F))))) (ss := L.a1_L3_ss) (os := L.a1_L3_os) (G := L.a1_L3_G) rfl (Nat.le_of_ble_eq_true rfl) ⟨(annOk_leaf _), ⟨(annOk_leaf _), ⟨(annOk_leaf _), (cut_ok (ay := .leaf) (ss := L.a1_J1_ss) (os := L.a1_J1_os) (G := L.a1_J1_G) rfl (annOk_leaf _) (Nat.le_of_ble_eq_true rfl) (Nat.le_of_ble_eq_true rfl) (annOk_leaf _) L.a1_J1_ok)⟩⟩⟩ (L.a1_L3_imp)
def L.a1_B (a : L.yb) (b : L.yb) (K : (List Int) → Prop) : Prop :=
  (0 ≤ (i64 ((i64 ((a.length : Int) + 1)) * (i64 ((b.length : Int) + 1)))) ∧ (i64 ((i64 ((a.length : Int) + 1)) * (i64 ((b.length : Int) + 1)))) ≤ (i64 ((i64 ((a.length : Int) + 1)) * (i64 ((b.length : Int) + 1)))) ∧ (i64 ((i64 ((a.length : Int) + 1)) * (i64 ((b.length : Int) + 1)))) ≤ 1073741824) ∧ L.a1_L2 a b (i64 ((b.length : Int) + 1)) (i64 ((a.length : Int) - 1)) (List.replicate (i64 ((i64 ((a.length : Int) + 1)) * (i64 ((b.length : Int) + 1)))).toNat (0 : Int)) (fun m => L.a1_L3 a b (i64 ((b.length : Int) + 1)) m 0 0 ([] : List Int) (fun out => K out))
structure L.a1 (a : L.yb) (b : L.yb) (K : (List Int) → Prop) : Prop where
  out : L.a1_B a b K
def L.a1_ss : List Sh := [.ro .str, .ro .str]
def L.a1_G (vs : List V) (K : V → List Ob → Prop) : Prop := L.a1 (gR .str (gA vs 0)) (gR .str (gA vs 1)) (fun r0 => K (.vec 0) [.vec (.int .i64) 0 r0])
def L.a1_S : SemF := fun args K => argF L.a1_ss args fun a => L.a1_G a K
theorem L.a1_eq (a : L.yb) (b : L.yb) (K : V → List Ob → Prop) : run L.pg L.Γ_a1 L.Δ_a1 (.node .leaf (.node .leaf (.node .leaf (.node .leaf (.node (.node .leaf (.lift L.a1_L2_d 147 L.a1_L2_F)) (.node .leaf (.node (.node .leaf (.lift L.a1_L3_d 147 L.a1_L3_F)) .leaf))))))) (.sl (.int .i64)) Tryd.f21 [.ro .str a, .ro .str b] K = L.a1_B a b (fun r0 => K (.vec 0) [.vec (.int .i64) 0 r0]) := by
  kernel_rfl
theorem L.a1_imp (vs : List V) (K : V → List Ob → Prop) : Imp (L.a1_G vs K) (run L.pg L.Γ_a1 L.Δ_a1 (.node .leaf (.node .leaf (.node .leaf (.node .leaf (.node (.node .leaf (.lift L.a1_L2_d 147 L.a1_L2_F)) (.node .leaf (.node (.node .leaf (.lift L.a1_L3_d 147 L.a1_L3_F)) .leaf))))))) (.sl (.int .i64)) Tryd.f21 (mkL L.a1_ss 0 vs) K) :=
  Imp.of (Eq.trans (b := run L.pg L.Γ_a1 L.Δ_a1 (.node .leaf (.node .leaf (.node .leaf (.node .leaf (.node (.node .leaf (.lift L.a1_L2_d 147 L.a1_L2_F)) (.node .leaf (.node (.node .leaf (.lift L.a1_L3_d 147 L.a1_L3_F)) .leaf))))))) (.sl (.int .i64)) Tryd.f21 [.ro .str (gR .str (gA vs 0)), .ro .str (gR .str (gA vs 1))] K) (by kernel_rfl) (L.a1_eq (gR .str (gA vs 0)) (gR .str (gA vs 1)) K)) fun h => (L.a1.out h)
theorem L.a1_ok : SoundFn L.pg 21 L.a1_S :=
  fn_ok (sem := run L.pg L.Γ_a1 L.Δ_a1 (.node .leaf (.node .leaf (.node .leaf (.node .leaf (.node (.node .leaf (.lift L.a1_L2_d 147 L.a1_L2_F)) (.node .leaf (.node (.node .leaf (.lift L.a1_L3_d 147 L.a1_L3_F)) .leaf))))))) (.sl (.int .i64)) Tryd.f21) (ss := L.a1_ss) (G := L.a1_G) (run_ok L.Γ_a1_ok L.Δ_a1_ok Tryd.func21 (ann := (.node .leaf (.node .leaf (.node .leaf (.node .leaf (.node (.node .leaf (.lift L.a1_L2_d 147 L.a1_L2_F)) (.node .leaf (.node (.node .leaf (.lift L.a1_L3_d 147 L.a1_L3_F)) .leaf)))))))) ⟨(annOk_leaf _), ⟨(annOk_leaf _), ⟨(annOk_leaf _), ⟨(annOk_leaf _), ⟨⟨(annOk_leaf _), L.a1_L2_ok⟩, ⟨(annOk_leaf _), ⟨⟨(annOk_leaf _), L.a1_L3_ok⟩, (annOk_leaf _)⟩⟩⟩⟩⟩⟩⟩) L.a1_imp
def L.Γ_d3 : Ctx := ctxC L.Γ_a1 21 L.a1_S
theorem L.Γ_d3_ok : SoundG L.pg L.Γ_d3 := ctxC_ok L.Γ_a1_ok L.a1_ok
def L.Δ_d3 : CtxO := L.Δ_a1
theorem L.Δ_d3_ok : SoundGO L.pg L.Δ_d3 := L.Δ_a1_ok
def L.d3_B (n : Int) (m0 : Pool) (c : Int) (c1 : Bool) (m2 : L.yd) (K : Pool → Int → Bool → L.yd → Prop) : Prop :=
  (bif (decide (n > 0)) then K m0 (i64 (c + n)) false m2 else K m0 c c1 m2)
structure L.d3 (n : Int) (m0 : Pool) (c : Int) (c1 : Bool) (m2 : L.yd) (K : Pool → Int → Bool → L.yd → Prop) : Prop where
  out : L.d3_B n m0 c c1 m2 K
def L.d3_ss : List Sh := [.cl 1 0, .int .i64]
def L.d3_os : List OSh := [.pool, .cells [.vec 2, .int .i64, .bool], .vec L.yc true]
def L.d3_G (vs : List V) (st : List Ob) (K : V → List Ob → Prop) : Prop := L.d3 (gI (gA vs 1)) (oM (gD st 0)) (cI st 1 1) (gB ((oC (gD st 1)).getD 2 .any)) (oX L.yc (gD st 2)) (fun r0 r1 r2 r3 => K (.tup []) [.pool r0, .cells [.vec 2, .xi r1, .x (.bool r2)], .vec L.yc 0 r3])
def L.d3_S : SemO := fun args st K => argO L.d3_ss L.d3_os args st fun a s => L.d3_G a s K
theorem L.d3_eq (n : Int) (m0 : Pool) (c : Int) (c1 : Bool) (m2 : L.yd) (K : V → List Ob → Prop) : runH L.pg L.Γ_d3 L.Δ_d3 .leaf (.tup []) [] Tryd.f47 false 3 [.cl 1 0, .xi n] [.pool m0, .cells [.vec 2, .xi c, .x (.bool c1)], .vec L.yc 0 m2] K = L.d3_B n m0 c c1 m2 (fun r0 r1 r2 r3 => K (.tup []) [.pool r0, .cells [.vec 2, .xi r1, .x (.bool r2)], .vec L.yc 0 r3]) := by
  kernel_rfl
theorem L.d3_imp (vs : List V) (st : List Ob) (K : V → List Ob → Prop) : Imp (L.d3_G vs st K) (runH L.pg L.Γ_d3 L.Δ_d3 .leaf (.tup []) [] Tryd.f47 false 3 (mkL L.d3_ss 0 vs) (mkOs L.d3_os 0 st) K) :=
  Imp.of (Eq.trans (b := runH L.pg L.Γ_d3 L.Δ_d3 .leaf (.tup []) [] Tryd.f47 false 3 [.cl 1 0, .xi (gI (gA vs 1))] [.pool (oM (gD st 0)), .cells [.vec 2, .xi (cI st 1 1), .x (.bool (gB ((oC (gD st 1)).getD 2 .any)))], .vec L.yc 0 (oX L.yc (gD st 2))] K) (by kernel_rfl) (L.d3_eq (gI (gA vs 1)) (oM (gD st 0)) (cI st 1 1) (gB ((oC (gD st 1)).getD 2 .any)) (oX L.yc (gD st 2)) K)) fun h => (L.d3.out h)
theorem L.d3_ok : SoundO L.pg 47 L.d3_S :=
  fnO_ok (sem := runH L.pg L.Γ_d3 L.Δ_d3 .leaf (.tup []) [] Tryd.f47 false 3) (ss := L.d3_ss) (os := L.d3_os) (G := L.d3_G) (runH_ok L.Γ_d3_ok L.Δ_d3_ok Tryd.func47 (ann := .leaf) rfl (annOk_leaf _)) L.d3_imp
def L.Γ_c3 : Ctx := L.Γ_d3
theorem L.Γ_c3_ok : SoundG L.pg L.Γ_c3 := L.Γ_d3_ok
def L.Δ_c3 : CtxO := ctxE L.Δ_d3 47 [.any, .any] L.d3_ss L.d3_os L.d3_G
theorem L.Δ_c3_ok : SoundGO L.pg L.Δ_c3 := ctxE_ok L.Δ_d3_ok L.d3_ok
def L.c3_J1_B (c3 : Bool) (m3 : L.yd) (Kr : Nat → Bool → L.yd → Prop) : Prop :=
  (inB (i64 ((m3.length : Int) - 1)) m3.length) ∧ Kr ((i64 ((m3.length : Int) - 1)).toNat) c3 m3
structure L.c3_J1 (c3 : Bool) (m3 : L.yd) (Kr : Nat → Bool → L.yd → Prop) : Prop where
  out : L.c3_J1_B c3 m3 Kr
def L.c3_J1_d : CutD := { base := 3, vecs := [], flds := [(1, 0, .sl L.yc)], keep := [0], out := [], rets := [2], ovecs := [], oflds := [], rv := [], rbase := 3 }
def L.c3_J1_ss : List Sh := [.cl 1 0]
def L.c3_J1_os : List OSh := [.pool, .cells [.vec 3, .int .i64, .bool], .dead, .vec L.yc true]
def L.c3_J1_G (vs : List V) (st : List Ob) (K : Ex → St) : Prop := L.c3_J1 (gB ((oC (gD st 1)).getD 2 .any)) (oX L.yc (gD st 3)) (fun q0_ q1_ q2_ => K .ret (bld [2] [.el 3 q0_ 0] 0 36) [.pool (oM (gD st 0)), .cells [.vec 3, .xi (cI st 1 1), .x (.bool q1_)], .dead, .vec L.yc 0 q2_])
def L.c3_J1_F (vs : List V) (st : List Ob) (K : Ex → St) : Prop := fitF L.c3_J1_ss L.c3_J1_os vs st (L.c3_J1_G vs st K)
theorem L.c3_J1_eq (m01 : Pool) (c2 : Int) (c3 : Bool) (m3 : L.yd) (K : Ex → St) : L.c3_J1_B c3 m3 (fun q0_ q1_ q2_ => K .ret (bld [2] [.el 3 q0_ 0] 0 36) [.pool m01, .cells [.vec 3, .xi c2, .x (.bool q1_)], .dead, .vec L.yc 0 q2_]) = exec L.pg (CC L.pg L.Γ_c3 L.Δ_c3) (drawD L.pg L.Γ_c3 L.Δ_c3) .leaf (sub [true, true] (codeOf Tryd.f63)) (bld L.c3_J1_d.keep [.cl 1 0] 0 36) [.pool m01, .cells [.vec 3, .xi c2, .x (.bool c3)], .dead, .vec L.yc 0 m3] (cutK L.c3_J1_d K) := by
  kernel_rfl
theorem L.c3_J1_ok (vs : List V) (st : List Ob) (K : Ex → St) : Imp (L.c3_J1_G vs st K) (exec L.pg (CC L.pg L.Γ_c3 L.Δ_c3) (drawD L.pg L.Γ_c3 L.Δ_c3) .leaf (sub [true, true] (codeOf Tryd.f63)) (bld L.c3_J1_d.keep (mkL L.c3_J1_ss 0 vs) 0 36) (mkOs L.c3_J1_os 0 st) (cutK L.c3_J1_d K)) :=
  Imp.of (Eq.trans (b := exec L.pg (CC L.pg L.Γ_c3 L.Δ_c3) (drawD L.pg L.Γ_c3 L.Δ_c3) .leaf (sub [true, true] (codeOf Tryd.f63)) (bld L.c3_J1_d.keep [.cl 1 0] 0 36) [.pool (oM (gD st 0)), .cells [.vec 3, .xi (cI st 1 1), .x (.bool (gB ((oC (gD st 1)).getD 2 .any)))], .dead, .vec L.yc 0 (oX L.yc (gD st 3))] (cutK L.c3_J1_d K)) (by kernel_rfl) (Eq.symm (L.c3_J1_eq (oM (gD st 0)) (cI st 1 1) (gB ((oC (gD st 1)).getD 2 .any)) (oX L.yc (gD st 3)) K))) fun h => (L.c3_J1.out h)
def L.c3_B (m0 : Pool) (c : Int) (c1 : Bool) (m2 : L.yd) (K : Nat → Pool → Int → Bool → L.yd → Prop) : Prop :=
  (bif (!c1) then ((fits (m2.length + ([(c, (Hd.nil, Hd.nil))] : List (Int × (Hd × Hd))).length)) ∧ L.c3_J1 true (m2 ++ ([(c, (Hd.nil, Hd.nil))] : List (Int × (Hd × Hd)))) (fun r c2 m => K r m0 c c2 m)) ∧ (fits (m2.length + ([(c, (Hd.nil, Hd.nil))] : List (Int × (Hd × Hd))).length)) ∧ L.c3_J1 true (m2 ++ ([(c, (Hd.nil, Hd.nil))] : List (Int × (Hd × Hd)))) (fun r c2 m => K r m0 c c2 m) else L.c3_J1 c1 m2 (fun r c2 m => K r m0 c c2 m))
structure L.c3 (m0 : Pool) (c : Int) (c1 : Bool) (m2 : L.yd) (K : Nat → Pool → Int → Bool → L.yd → Prop) : Prop where
  out : L.c3_B m0 c c1 m2 K
def L.c3_ss : List Sh := [.cl 1 0]
def L.c3_os : List OSh := [.pool, .cells [.vec 2, .int .i64, .bool], .vec L.yc true]
def L.c3_G (vs : List V) (st : List Ob) (K : V → List Ob → Prop) : Prop := L.c3 (oM (gD st 0)) (cI st 1 1) (gB ((oC (gD st 1)).getD 2 .any)) (oX L.yc (gD st 2)) (fun r0 r1 r2 r3 r4 => K (.el 3 r0 0) [.pool r1, .cells [.vec 3, .xi r2, .x (.bool r3)], .dead, .vec L.yc 0 r4])
def L.c3_S : SemO := fun args st K => argO L.c3_ss L.c3_os args st fun a s => L.c3_G a s K
theorem L.c3_eq (m0 : Pool) (c : Int) (c1 : Bool) (m2 : L.yd) (K : V → List Ob → Prop) : runH L.pg L.Γ_c3 L.Δ_c3 (.node .leaf (.cut .leaf L.c3_J1_d 36 L.c3_J1_F)) .any [] Tryd.f63 false 3 [.cl 1 0] [.pool m0, .cells [.vec 2, .xi c, .x (.bool c1)], .vec L.yc 0 m2] K = L.c3_B m0 c c1 m2 (fun r0 r1 r2 r3 r4 => K (.el 3 r0 0) [.pool r1, .cells [.vec 3, .xi r2, .x (.bool r3)], .dead, .vec L.yc 0 r4]) := by
  kernel_rfl
theorem L.c3_imp (vs : List V) (st : List Ob) (K : V → List Ob → Prop) : Imp (L.c3_G vs st K) (runH L.pg L.Γ_c3 L.Δ_c3 (.node .leaf (.cut .leaf L.c3_J1_d 36 L.c3_J1_F)) .any [] Tryd.f63 false 3 (mkL L.c3_ss 0 vs) (mkOs L.c3_os 0 st) K) :=
  Imp.of (Eq.trans (b := runH L.pg L.Γ_c3 L.Δ_c3 (.node .leaf (.cut .leaf L.c3_J1_d 36 L.c3_J1_F)) .any [] Tryd.f63 false 3 [.cl 1 0] [.pool (oM (gD st 0)), .cells [.vec 2, .xi (cI st 1 1), .x (.bool (gB ((oC (gD st 1)).getD 2 .any)))], .vec L.yc 0 (oX L.yc (gD st 2))] K) (by kernel_rfl) (L.c3_eq (oM (gD st 0)) (cI st 1 1) (gB ((oC (gD st 1)).getD 2 .any)) (oX L.yc (gD st 2)) K)) fun h => (L.c3.out h)
theorem L.c3_ok : SoundO L.pg 63 L.c3_S :=
  fnO_ok (sem := runH L.pg L.Γ_c3 L.Δ_c3 (.node .leaf (.cut .leaf L.c3_J1_d 36 L.c3_J1_F)) .any [] Tryd.f63 false 3) (ss := L.c3_ss) (os := L.c3_os) (G := L.c3_G) (runH_ok L.Γ_c3_ok L.Δ_c3_ok Tryd.func63 (ann := (.node .leaf (.cut .leaf L.c3_J1_d 36 L.c3_J1_F))) rfl ⟨(annOk_leaf _), (cut_ok (ay := .leaf) (ss := L.c3_J1_ss) (os := L.c3_J1_os) (G := L.c3_J1_G) rfl (annOk_leaf _) (Nat.le_of_ble_eq_true rfl) (Nat.le_of_ble_eq_true rfl) (annOk_leaf _) L.c3_J1_ok)⟩) L.c3_imp
def L.Γ_d0 : Ctx := L.Γ_c3
theorem L.Γ_d0_ok : SoundG L.pg L.Γ_d0 := L.Γ_c3_ok
def L.Δ_d0 : CtxO := ctxE L.Δ_c3 63 [.any] L.c3_ss L.c3_os L.c3_G
theorem L.Δ_d0_ok : SoundGO L.pg L.Δ_d0 := ctxE_ok L.Δ_c3_ok L.c3_ok
def L.d0_B (line : ByteArray) (m0 : Pool) (c : Int) (c1 : Bool) (m2 : L.yd) (K : Pool → Int → Bool → L.yd → Prop) : Prop :=
  L.c3 m0 c c1 m2 (fun r m c2 c3 r1 => Hd.ok m ((r1.getD r (0, (Hd.nil, Hd.nil))).2.1) ∧ fits (((r1.getD r (0, (Hd.nil, Hd.nil))).2.1).n + ([line] : List ByteArray).length) ∧ (bif Nat.ble (((r1.getD r (0, (Hd.nil, Hd.nil))).2.1).n + ([line] : List ByteArray).length) (((r1.getD r (0, (Hd.nil, Hd.nil))).2.1).c) then K (pwr m (((r1.getD r (0, (Hd.nil, Hd.nil))).2.1).a) (((r1.getD r (0, (Hd.nil, Hd.nil))).2.1).n) ([line] : List ByteArray)) (i64 (c2 + 1)) c3 (r1.set r ((r1.getD r (0, (Hd.nil, Hd.nil))).1, ((Hd.mk (((r1.getD r (0, (Hd.nil, Hd.nil))).2.1).a) (((r1.getD r (0, (Hd.nil, Hd.nil))).2.1).n + ([line] : List ByteArray).length) (((r1.getD r (0, (Hd.nil, Hd.nil))).2.1).c)), (r1.getD r (0, (Hd.nil, Hd.nil))).2.2))) else ∀ b cap : Nat, pfind m b = none → (((r1.getD r (0, (Hd.nil, Hd.nil))).2.1).n + ([line] : List ByteArray).length) ≤ cap → K ((b, ((Hd.get m ((r1.getD r (0, (Hd.nil, Hd.nil))).2.1) ++ ([line] : List ByteArray)), cap)) :: m) (i64 (c2 + 1)) c3 (r1.set r ((r1.getD r (0, (Hd.nil, Hd.nil))).1, ((Hd.mk (some (Addr.mk b 0 none)) (((r1.getD r (0, (Hd.nil, Hd.nil))).2.1).n + ([line] : List ByteArray).length) cap), (r1.getD r (0, (Hd.nil, Hd.nil))).2.2)))))
structure L.d0 (line : ByteArray) (m0 : Pool) (c : Int) (c1 : Bool) (m2 : L.yd) (K : Pool → Int → Bool → L.yd → Prop) : Prop where
  out : L.d0_B line m0 c c1 m2 K
def L.d0_ss : List Sh := [.cl 1 0, .str]
def L.d0_os : List OSh := [.pool, .cells [.vec 2, .int .i64, .bool], .vec L.yc true]
def L.d0_G (vs : List V) (st : List Ob) (K : V → List Ob → Prop) : Prop := L.d0 (gS (gA vs 1)) (oM (gD st 0)) (cI st 1 1) (gB ((oC (gD st 1)).getD 2 .any)) (oX L.yc (gD st 2)) (fun r0 r1 r2 r3 => K (.tup []) [.pool r0, .cells [.vec 3, .xi r1, .x (.bool r2)], .dead, .vec L.yc 0 r3])
def L.d0_S : SemO := fun args st K => argO L.d0_ss L.d0_os args st fun a s => L.d0_G a s K
theorem L.d0_eq (line : ByteArray) (m0 : Pool) (c : Int) (c1 : Bool) (m2 : L.yd) (K : V → List Ob → Prop) : runH L.pg L.Γ_d0 L.Δ_d0 .leaf (.tup []) [] Tryd.f48 false 3 [.cl 1 0, .x (.string line)] [.pool m0, .cells [.vec 2, .xi c, .x (.bool c1)], .vec L.yc 0 m2] K = L.d0_B line m0 c c1 m2 (fun r0 r1 r2 r3 => K (.tup []) [.pool r0, .cells [.vec 3, .xi r1, .x (.bool r2)], .dead, .vec L.yc 0 r3]) := by
  kernel_rfl
theorem L.d0_imp (vs : List V) (st : List Ob) (K : V → List Ob → Prop) : Imp (L.d0_G vs st K) (runH L.pg L.Γ_d0 L.Δ_d0 .leaf (.tup []) [] Tryd.f48 false 3 (mkL L.d0_ss 0 vs) (mkOs L.d0_os 0 st) K) :=
  Imp.of (Eq.trans (b := runH L.pg L.Γ_d0 L.Δ_d0 .leaf (.tup []) [] Tryd.f48 false 3 [.cl 1 0, .x (.string (gS (gA vs 1)))] [.pool (oM (gD st 0)), .cells [.vec 2, .xi (cI st 1 1), .x (.bool (gB ((oC (gD st 1)).getD 2 .any)))], .vec L.yc 0 (oX L.yc (gD st 2))] K) (by kernel_rfl) (L.d0_eq (gS (gA vs 1)) (oM (gD st 0)) (cI st 1 1) (gB ((oC (gD st 1)).getD 2 .any)) (oX L.yc (gD st 2)) K)) fun h => (L.d0.out h)
theorem L.d0_ok : SoundO L.pg 48 L.d0_S :=
  fnO_ok (sem := runH L.pg L.Γ_d0 L.Δ_d0 .leaf (.tup []) [] Tryd.f48 false 3) (ss := L.d0_ss) (os := L.d0_os) (G := L.d0_G) (runH_ok L.Γ_d0_ok L.Δ_d0_ok Tryd.func48 (ann := .leaf) rfl (annOk_leaf _)) L.d0_imp
def L.Γ_c9 : Ctx := L.Γ_d0
theorem L.Γ_c9_ok : SoundG L.pg L.Γ_c9 := L.Γ_d0_ok
def L.Δ_c9 : CtxO := ctxE L.Δ_d0 48 [.any, .any] L.d0_ss L.d0_os L.d0_G
theorem L.Δ_c9_ok : SoundGO L.pg L.Δ_c9 := ctxE_ok L.Δ_d0_ok L.d0_ok
def L.c9_B (line : ByteArray) (m0 : Pool) (c : Int) (c1 : Bool) (m2 : L.yd) (K : Pool → Int → Bool → L.yd → Prop) : Prop :=
  L.c3 m0 c c1 m2 (fun r m c2 c3 r1 => Hd.ok m ((r1.getD r (0, (Hd.nil, Hd.nil))).2.2) ∧ fits (((r1.getD r (0, (Hd.nil, Hd.nil))).2.2).n + ([line] : List ByteArray).length) ∧ (bif Nat.ble (((r1.getD r (0, (Hd.nil, Hd.nil))).2.2).n + ([line] : List ByteArray).length) (((r1.getD r (0, (Hd.nil, Hd.nil))).2.2).c) then K (pwr m (((r1.getD r (0, (Hd.nil, Hd.nil))).2.2).a) (((r1.getD r (0, (Hd.nil, Hd.nil))).2.2).n) ([line] : List ByteArray)) c2 c3 (r1.set r ((r1.getD r (0, (Hd.nil, Hd.nil))).1, ((r1.getD r (0, (Hd.nil, Hd.nil))).2.1, (Hd.mk (((r1.getD r (0, (Hd.nil, Hd.nil))).2.2).a) (((r1.getD r (0, (Hd.nil, Hd.nil))).2.2).n + ([line] : List ByteArray).length) (((r1.getD r (0, (Hd.nil, Hd.nil))).2.2).c))))) else ∀ b cap : Nat, pfind m b = none → (((r1.getD r (0, (Hd.nil, Hd.nil))).2.2).n + ([line] : List ByteArray).length) ≤ cap → K ((b, ((Hd.get m ((r1.getD r (0, (Hd.nil, Hd.nil))).2.2) ++ ([line] : List ByteArray)), cap)) :: m) c2 c3 (r1.set r ((r1.getD r (0, (Hd.nil, Hd.nil))).1, ((r1.getD r (0, (Hd.nil, Hd.nil))).2.1, (Hd.mk (some (Addr.mk b 0 none)) (((r1.getD r (0, (Hd.nil, Hd.nil))).2.2).n + ([line] : List ByteArray).length) cap))))))
structure L.c9 (line : ByteArray) (m0 : Pool) (c : Int) (c1 : Bool) (m2 : L.yd) (K : Pool → Int → Bool → L.yd → Prop) : Prop where
  out : L.c9_B line m0 c c1 m2 K
def L.c9_ss : List Sh := [.cl 1 0, .str]
def L.c9_os : List OSh := [.pool, .cells [.vec 2, .int .i64, .bool], .vec L.yc true]
def L.c9_G (vs : List V) (st : List Ob) (K : V → List Ob → Prop) : Prop := L.c9 (gS (gA vs 1)) (oM (gD st 0)) (cI st 1 1) (gB ((oC (gD st 1)).getD 2 .any)) (oX L.yc (gD st 2)) (fun r0 r1 r2 r3 => K (.tup []) [.pool r0, .cells [.vec 3, .xi r1, .x (.bool r2)], .dead, .vec L.yc 0 r3])
def L.c9_S : SemO := fun args st K => argO L.c9_ss L.c9_os args st fun a s => L.c9_G a s K
theorem L.c9_eq (line : ByteArray) (m0 : Pool) (c : Int) (c1 : Bool) (m2 : L.yd) (K : V → List Ob → Prop) : runH L.pg L.Γ_c9 L.Δ_c9 .leaf (.tup []) [] Tryd.f49 false 3 [.cl 1 0, .x (.string line)] [.pool m0, .cells [.vec 2, .xi c, .x (.bool c1)], .vec L.yc 0 m2] K = L.c9_B line m0 c c1 m2 (fun r0 r1 r2 r3 => K (.tup []) [.pool r0, .cells [.vec 3, .xi r1, .x (.bool r2)], .dead, .vec L.yc 0 r3]) := by
  kernel_rfl
theorem L.c9_imp (vs : List V) (st : List Ob) (K : V → List Ob → Prop) : Imp (L.c9_G vs st K) (runH L.pg L.Γ_c9 L.Δ_c9 .leaf (.tup []) [] Tryd.f49 false 3 (mkL L.c9_ss 0 vs) (mkOs L.c9_os 0 st) K) :=
  Imp.of (Eq.trans (b := runH L.pg L.Γ_c9 L.Δ_c9 .leaf (.tup []) [] Tryd.f49 false 3 [.cl 1 0, .x (.string (gS (gA vs 1)))] [.pool (oM (gD st 0)), .cells [.vec 2, .xi (cI st 1 1), .x (.bool (gB ((oC (gD st 1)).getD 2 .any)))], .vec L.yc 0 (oX L.yc (gD st 2))] K) (by kernel_rfl) (L.c9_eq (gS (gA vs 1)) (oM (gD st 0)) (cI st 1 1) (gB ((oC (gD st 1)).getD 2 .any)) (oX L.yc (gD st 2)) K)) fun h => (L.c9.out h)
theorem L.c9_ok : SoundO L.pg 49 L.c9_S :=
  fnO_ok (sem := runH L.pg L.Γ_c9 L.Δ_c9 .leaf (.tup []) [] Tryd.f49 false 3) (ss := L.c9_ss) (os := L.c9_os) (G := L.c9_G) (runH_ok L.Γ_c9_ok L.Δ_c9_ok Tryd.func49 (ann := .leaf) rfl (annOk_leaf _)) L.c9_imp
def L.Γ_d2 : Ctx := L.Γ_c9
theorem L.Γ_d2_ok : SoundG L.pg L.Γ_d2 := L.Γ_c9_ok
def L.Δ_d2 : CtxO := ctxE L.Δ_c9 49 [.any, .any] L.c9_ss L.c9_os L.c9_G
theorem L.Δ_d2_ok : SoundGO L.pg L.Δ_d2 := ctxE_ok L.Δ_c9_ok L.c9_ok
def L.d2_B (m0 : Pool) (c : Int) (c1 : Bool) (m2 : L.yd) (K : Pool → Int → Bool → L.yd → Prop) : Prop :=
  K m0 c c1 m2
structure L.d2 (m0 : Pool) (c : Int) (c1 : Bool) (m2 : L.yd) (K : Pool → Int → Bool → L.yd → Prop) : Prop where
  out : L.d2_B m0 c c1 m2 K
def L.d2_ss : List Sh := [.cl 1 0]
def L.d2_os : List OSh := [.pool, .cells [.vec 2, .int .i64, .bool], .vec L.yc true]
def L.d2_G (vs : List V) (st : List Ob) (K : V → List Ob → Prop) : Prop := L.d2 (oM (gD st 0)) (cI st 1 1) (gB ((oC (gD st 1)).getD 2 .any)) (oX L.yc (gD st 2)) (fun r0 r1 r2 r3 => K (.agg [.vec 2]) [.pool r0, .cells [.vec 2, .xi r1, .x (.bool r2)], .vec L.yc 0 r3])
def L.d2_S : SemO := fun args st K => argO L.d2_ss L.d2_os args st fun a s => L.d2_G a s K
theorem L.d2_eq (m0 : Pool) (c : Int) (c1 : Bool) (m2 : L.yd) (K : V → List Ob → Prop) : runH L.pg L.Γ_d2 L.Δ_d2 .leaf (.agg [(.sl L.T7)]) [] Tryd.f50 false 3 [.cl 1 0] [.pool m0, .cells [.vec 2, .xi c, .x (.bool c1)], .vec L.yc 0 m2] K = L.d2_B m0 c c1 m2 (fun r0 r1 r2 r3 => K (.agg [.vec 2]) [.pool r0, .cells [.vec 2, .xi r1, .x (.bool r2)], .vec L.yc 0 r3]) := by
  kernel_rfl
theorem L.d2_imp (vs : List V) (st : List Ob) (K : V → List Ob → Prop) : Imp (L.d2_G vs st K) (runH L.pg L.Γ_d2 L.Δ_d2 .leaf (.agg [(.sl L.T7)]) [] Tryd.f50 false 3 (mkL L.d2_ss 0 vs) (mkOs L.d2_os 0 st) K) :=
  Imp.of (Eq.trans (b := runH L.pg L.Γ_d2 L.Δ_d2 .leaf (.agg [(.sl L.T7)]) [] Tryd.f50 false 3 [.cl 1 0] [.pool (oM (gD st 0)), .cells [.vec 2, .xi (cI st 1 1), .x (.bool (gB ((oC (gD st 1)).getD 2 .any)))], .vec L.yc 0 (oX L.yc (gD st 2))] K) (by kernel_rfl) (L.d2_eq (oM (gD st 0)) (cI st 1 1) (gB ((oC (gD st 1)).getD 2 .any)) (oX L.yc (gD st 2)) K)) fun h => (L.d2.out h)
theorem L.d2_ok : SoundO L.pg 50 L.d2_S :=
  fnO_ok (sem := runH L.pg L.Γ_d2 L.Δ_d2 .leaf (.agg [(.sl L.T7)]) [] Tryd.f50 false 3) (ss := L.d2_ss) (os := L.d2_os) (G := L.d2_G) (runH_ok L.Γ_d2_ok L.Δ_d2_ok Tryd.func50 (ann := .leaf) rfl (annOk_leaf _)) L.d2_imp
def L.Γ_a8 : Ctx := L.Γ_d2
theorem L.Γ_a8_ok : SoundG L.pg L.Γ_a8 := L.Γ_d2_ok
def L.Δ_a8 : CtxO := ctxE L.Δ_d2 50 [.any] L.d2_ss L.d2_os L.d2_G
theorem L.Δ_a8_ok : SoundGO L.pg L.Δ_a8 := ctxE_ok L.Δ_d2_ok L.d2_ok
def L.a8_L1_b (a1 : L.yb) (b1 : L.yb) (v23 : Int) (m5 : (List Int)) (i_ : Int) (j : Int) (v24 : Int) (m0 : Pool) (c : Int) (c1 : Bool) (m6 : L.yd) (self : Int → Int → Int → Pool → Int → Bool → L.yd → Prop) (Kx0 : Pool → Int → Bool → L.yd → Prop) : Prop :=
  (bif (decide (v24 < v23)) then (inB v24 m5.length) ∧ (bif ((m5.getD v24.toNat 0) == 0) then L.d3 1 m0 c c1 m6 (fun m c2 c3 m1 => self (i64 (i_ + 1)) (i64 (j + 1)) (i64 (v24 + 1)) m c2 c3 m1) else (bif ((m5.getD v24.toNat 0) == 1) then (inB i_ a1.length) ∧ L.d0 (a1.getD i_.toNat ByteArray.empty) m0 c c1 m6 (fun m4 c4 c5 r1 => self (i64 (i_ + 1)) j (i64 (v24 + 1)) m4 c4 c5 r1) else (inB j b1.length) ∧ L.c9 (b1.getD j.toNat ByteArray.empty) m0 c c1 m6 (fun m7 c6 c7 r2 => self i_ (i64 (j + 1)) (i64 (v24 + 1)) m7 c6 c7 r2))) else Kx0 m0 c c1 m6)
def L.a8_L1_R (a1 : L.yb) (b1 : L.yb) (v23 : Int) (m5 : (List Int)) : Nat → Int → Int → Int → Pool → Int → Bool → L.yd → (Pool → Int → Bool → L.yd → Prop) → Prop
  | 0, _, _, _, _, _, _, _, _ => False
  | fu + 1, i_, j, v24, m0, c, c1, m6, Kx0 => L.a8_L1_b a1 b1 v23 m5 i_ j v24 m0 c c1 m6 (fun i_ j v24 m0 c c1 m6 => L.a8_L1_R a1 b1 v23 m5 fu i_ j v24 m0 c c1 m6 Kx0) Kx0
structure L.a8_L1 (a1 : L.yb) (b1 : L.yb) (v23 : Int) (m5 : (List Int)) (i_ : Int) (j : Int) (v24 : Int) (m0 : Pool) (c : Int) (c1 : Bool) (m6 : L.yd) (Kx0 : Pool → Int → Bool → L.yd → Prop) : Prop where
  out : ∃ fu, L.a8_L1_R a1 b1 v23 m5 fu i_ j v24 m0 c c1 m6 Kx0
def L.a8_L1_d : LoopD := { base := 6, vecs := [], flds := [(4, 0, .sl L.yc)], keep := [0, 1, 4, 5, 7, 8, 9, 22, 23, 24], out := [4, 5, 7], rets := [4, 5], rv := [], rbase := 1 }
def L.a8_L1_ss : List Sh := [.ro .str, .ro .str, .cl 1 0, .cl 2 0, .cl 4 0, .int .i64, .int .i64, .vec 5, .int .i64, .int .i64]
def L.a8_L1_os : List OSh := [.pool, .cells [.nil], .cells [.int .i64, .int .i64], .cells [.int .i64, .int .i64], .cells [.vec 6, .int .i64, .bool], .vec (.int .i64) true, .vec L.yc true]
def L.a8_L1_G (vs : List V) (st : List Ob) (K : Ex → St) : Prop := L.a8_L1 (gR .str (gA vs 0)) (gR .str (gA vs 1)) (gI (gA vs 8)) (oX (.int .i64) (gD st 5)) (gI (gA vs 5)) (gI (gA vs 6)) (gI (gA vs 9)) (oM (gD st 0)) (cI st 4 1) (gB ((oC (gD st 4)).getD 2 .any)) (oX L.yc (gD st 6)) (fun q0_ q1_ q2_ q3_ => K (.exit 0) (bld [4, 5, 7] [.cl 1 0, .cl 2 0, .cl 4 0] 0 55) [.pool q0_, .cells [.x (.slice none 0 0)], .cells [.xi (cI st 2 0), .xi (cI st 2 1)], .cells [.xi (cI st 3 0), .xi (cI st 3 1)], .cells [.vec 6, .xi q1_, .x (.bool q2_)], .vec (.int .i64) 0 (oX (.int .i64) (gD st 5)), .vec L.yc 0 q3_])
def L.a8_L1_F (vs : List V) (st : List Ob) (K : Ex → St) : Prop := fitF L.a8_L1_ss L.a8_L1_os vs st (L.a8_L1_G vs st K)
theorem L.a8_L1_eq (a1 : L.yb) (b1 : L.yb) (v23 : Int) (m2 : Int) (m21 : Int) (m3 : Int) (m31 : Int) (m5 : (List Int)) (K : Ex → St) : ∀ (fu : Nat) (i_ : Int) (j : Int) (v24 : Int) (m0 : Pool) (c : Int) (c1 : Bool) (m6 : L.yd), L.a8_L1_R a1 b1 v23 m5 fu i_ j v24 m0 c c1 m6 (fun q0_ q1_ q2_ q3_ => K (.exit 0) (bld [4, 5, 7] [.cl 1 0, .cl 2 0, .cl 4 0] 0 55) [.pool q0_, .cells [.x (.slice none 0 0)], .cells [.xi m2, .xi m21], .cells [.xi m3, .xi m31], .cells [.vec 6, .xi q1_, .x (.bool q2_)], .vec (.int .i64) 0 m5, .vec L.yc 0 q3_]) = iterL (stepL (exec L.pg (CC L.pg L.Γ_a8 L.Δ_a8) (drawD L.pg L.Γ_a8 L.Δ_a8) .leaf (sub [true, true, true, true, false, true, false, false] (codeOf Tryd.f26))) 6 L.a8_L1_d K) fu (bld L.a8_L1_d.keep [.ro .str a1, .ro .str b1, .cl 1 0, .cl 2 0, .cl 4 0, .xi i_, .xi j, .vec 5, .xi v23, .xi v24] 0 55) [.pool m0, .cells [.x (.slice none 0 0)], .cells [.xi m2, .xi m21], .cells [.xi m3, .xi m31], .cells [.vec 6, .xi c, .x (.bool c1)], .vec (.int .i64) 0 m5, .vec L.yc 0 m6] := by
  intro fu
  induction fu with
  | zero => intros; rfl
  | succ fu ih =>
    intro i_ j v24 m0 c c1 m6
    have e : (fun i_ j v24 m0 c c1 m6 => L.a8_L1_R a1 b1 v23 m5 fu i_ j v24 m0 c c1 m6 (fun q0_ q1_ q2_ q3_ => K (.exit 0) (bld [4, 5, 7] [.cl 1 0, .cl 2 0, .cl 4 0] 0 55) [.pool q0_, .cells [.x (.slice none 0 0)], .cells [.xi m2, .xi m21], .cells [.xi m3, .xi m31], .cells [.vec 6, .xi q1_, .x (.bool q2_)], .vec (.int .i64) 0 m5, .vec L.yc 0 q3_])) = fun i_ j v24 m0 c c1 m6 => iterL (stepL (exec L.pg (CC L.pg L.Γ_a8 L.Δ_a8) (drawD L.pg L.Γ_a8 L.Δ_a8) .leaf (sub [true, true, true, true, false, true, false, false] (codeOf Tryd.f26))) 6 L.a8_L1_d K) fu (bld L.a8_L1_d.keep [.ro .str a1, .ro .str b1, .cl 1 0, .cl 2 0, .cl 4 0, .xi i_, .xi j, .vec 5, .xi v23, .xi v24] 0 55) [.pool m0, .cells [.x (.slice none 0 0)], .cells [.xi m2, .xi m21], .cells [.xi m3, .xi m31], .cells [.vec 6, .xi c, .x (.bool c1)], .vec (.int .i64) 0 m5, .vec L.yc 0 m6] := by
      funext i_ j v24 m0 c c1 m6; exact ih i_ j v24 m0 c c1 m6
    show L.a8_L1_b a1 b1 v23 m5 i_ j v24 m0 c c1 m6 (fun i_ j v24 m0 c c1 m6 => L.a8_L1_R a1 b1 v23 m5 fu i_ j v24 m0 c c1 m6 (fun q0_ q1_ q2_ q3_ => K (.exit 0) (bld [4, 5, 7] [.cl 1 0, .cl 2 0, .cl 4 0] 0 55) [.pool q0_, .cells [.x (.slice none 0 0)], .cells [.xi m2, .xi m21], .cells [.xi m3, .xi m31], .cells [.vec 6, .xi q1_, .x (.bool q2_)], .vec (.int .i64) 0 m5, .vec L.yc 0 q3_])) (fun q0_ q1_ q2_ q3_ => K (.exit 0) (bld [4, 5, 7] [.cl 1 0, .cl 2 0, .cl 4 0] 0 55) [.pool q0_, .cells [.x (.slice none 0 0)], .cells [.xi m2, .xi m21], .cells [.xi m3, .xi m31], .cells [.vec 6, .xi q1_, .x (.bool q2_)], .vec (.int .i64) 0 m5, .vec L.yc 0 q3_]) = _
    rw [e]
    kernel_rfl
theorem L.a8_L1_imp (vs : List V) (st : List Ob) (K : Ex → St) (h : L.a8_L1_G vs st K) : ∃ fu, iterL (stepL (exec L.pg (CC L.pg L.Γ_a8 L.Δ_a8) (drawD L.pg L.Γ_a8 L.Δ_a8) .leaf (sub [true, true, true, true, false, true, false, false] (codeOf Tryd.f26))) 6 L.a8_L1_d K) fu (bld L.a8_L1_d.keep (mkL L.a8_L1_ss 0 vs) 0 55) (mkOs L.a8_L1_os 0 st) :=
  exMap (fun fu h => @Eq.mp _ _ (Eq.trans (L.a8_L1_eq (gR .str (gA vs 0)) (gR .str (gA vs 1)) (gI (gA vs 8)) (cI st 2 0) (cI st 2 1) (cI st 3 0) (cI st 3 1) (oX (.int .i64) (gD st 5)) K fu (gI (gA vs 5)) (gI (gA vs 6)) (gI (gA vs 9)) (oM (gD st 0)) (cI st 4 1) (gB ((oC (gD st 4)).getD 2 .any)) (oX L.yc (gD st 6))) (by kernel_rfl)) h) (L.a8_L1.out h)
theorem L.a8_L1_ok : AnnOk L.pg (CC L.pg L.Γ_a8 L.Δ_a8) (drawD L.pg L.Γ_a8 L.Δ_a8) 1 (.lift L.a8_L1_d 55 L.a8_L1_F) (.loop (sub [true, true, true, true, false, true, false, false] (codeOf Tryd.f26))) :=
  lift_ok (an := .leaf) (ss := L.a8_L1_ss) (os := L.a8_L1_os) (G := L.a8_L1_G) rfl (Nat.le_of_ble_eq_true rfl) (annOk_leaf _) (L.a8_L1_imp)
def L.a8_B (a : L.yb) (b : L.yb) (K : L.T8 → Int → Int → Prop) : Prop :=
  L.e6 a b (fun rCode rIndex => (bif (!((rCode == 0) && ((rIndex == 0) && true))) then (K ([] : List (Int × (L.yb × L.yb))) rCode rIndex) ∧ K ([] : List (Int × (L.yb × L.yb))) rCode rIndex else L.a1 a b (fun r => L.a8_L1 a b (r.length : Int) r 0 0 0 [] 0 false ([] : List (Int × (Hd × Hd))) (fun m c c1 m1 => L.d2 m c c1 m1 (fun m2 c2 c3 m3 => (okRows m2 L.yc m3) ∧ K (List.map (fz m2 L.yc) m3) 0 0)))))
structure L.a8 (a : L.yb) (b : L.yb) (K : L.T8 → Int → Int → Prop) : Prop where
  out : L.a8_B a b K
def L.a8_ss : List Sh := [.ro .str, .ro .str]
def L.a8_os : List OSh := []
def L.a8_G (vs : List V) (st : List Ob) (K : V → List Ob → Prop) : Prop := L.a8 (gR .str (gA vs 0)) (gR .str (gA vs 1)) (fun r0 r1 r2 => K (.tup [.agg [.ro L.T7 r0], .agg [.xi r1, .xi r2]]) [])
def L.a8_S : SemO := fun args st K => argO L.a8_ss L.a8_os args st fun a s => L.a8_G a s K
theorem L.a8_eq (a : L.yb) (b : L.yb) (K : V → List Ob → Prop) : runH L.pg L.Γ_a8 L.Δ_a8 (.node .leaf (.node .leaf (.node .leaf (.node .leaf (.node (.node .leaf (.lift L.a8_L1_d 55 L.a8_L1_F)) .leaf))))) (.tup [(.agg [(.ro L.T7)]), .any]) [] Tryd.f26 true 0 [.ro .str a, .ro .str b] [] K = L.a8_B a b (fun r0 r1 r2 => K (.tup [.agg [.ro L.T7 r0], .agg [.xi r1, .xi r2]]) []) := by
  kernel_rfl
theorem L.a8_imp (vs : List V) (st : List Ob) (K : V → List Ob → Prop) : Imp (L.a8_G vs st K) (runH L.pg L.Γ_a8 L.Δ_a8 (.node .leaf (.node .leaf (.node .leaf (.node .leaf (.node (.node .leaf (.lift L.a8_L1_d 55 L.a8_L1_F)) .leaf))))) (.tup [(.agg [(.ro L.T7)]), .any]) [] Tryd.f26 true 0 (mkL L.a8_ss 0 vs) (mkOs L.a8_os 0 st) K) :=
  Imp.of (Eq.trans (b := runH L.pg L.Γ_a8 L.Δ_a8 (.node .leaf (.node .leaf (.node .leaf (.node .leaf (.node (.node .leaf (.lift L.a8_L1_d 55 L.a8_L1_F)) .leaf))))) (.tup [(.agg [(.ro L.T7)]), .any]) [] Tryd.f26 true 0 [.ro .str (gR .str (gA vs 0)), .ro .str (gR .str (gA vs 1))] [] K) (by kernel_rfl) (L.a8_eq (gR .str (gA vs 0)) (gR .str (gA vs 1)) K)) fun h => (L.a8.out h)
theorem L.a8_ok : SoundO L.pg 26 L.a8_S :=
  fnO_ok (sem := runH L.pg L.Γ_a8 L.Δ_a8 (.node .leaf (.node .leaf (.node .leaf (.node .leaf (.node (.node .leaf (.lift L.a8_L1_d 55 L.a8_L1_F)) .leaf))))) (.tup [(.agg [(.ro L.T7)]), .any]) [] Tryd.f26 true 0) (ss := L.a8_ss) (os := L.a8_os) (G := L.a8_G) (runH_ok L.Γ_a8_ok L.Δ_a8_ok Tryd.func26 (ann := (.node .leaf (.node .leaf (.node .leaf (.node .leaf (.node (.node .leaf (.lift L.a8_L1_d 55 L.a8_L1_F)) .leaf)))))) rfl ⟨(annOk_leaf _), ⟨(annOk_leaf _), ⟨(annOk_leaf _), ⟨(annOk_leaf _), ⟨⟨(annOk_leaf _), L.a8_L1_ok⟩, (annOk_leaf _)⟩⟩⟩⟩⟩) L.a8_imp
def L.Γ_d1 : Ctx := L.Γ_a8
theorem L.Γ_d1_ok : SoundG L.pg L.Γ_d1 := L.Γ_a8_ok
def L.Δ_d1 : CtxO := ctxE L.Δ_a8 26 [.ro .str, .ro .str] L.a8_ss L.a8_os L.a8_G
theorem L.Δ_d1_ok : SoundGO L.pg L.Δ_d1 := ctxE_ok L.Δ_a8_ok L.a8_ok
def L.d1_B (n : Int) (K : L.T2 → Prop) : Prop :=
  (bif (decide (n < 0)) then False else (bif (decide ((i64 (n - (i64 ((0 : Int) - 0)))) > 0)) then ((0 : Int) = 0) ∧ (0 < (i64 (n - (i64 ((0 : Int) - 0)))) ∧ (i64 (n - (i64 ((0 : Int) - 0)))) ≤ 1073741824) ∧ (0 ≤ (0 : Int) ∧ (0 : Int) ≤ (List.replicate (i64 (n - (i64 ((0 : Int) - 0)))).toNat ((0, (L.str1, (L.str1, (([] : List ByteArray), ([] : List (Int × (L.yb × L.yb))))))) : (Int × (ByteArray × (ByteArray × (L.yb × L.T8)))))).length) ∧ K ((List.replicate (i64 (n - (i64 ((0 : Int) - 0)))).toNat ((0, (L.str1, (L.str1, (([] : List ByteArray), ([] : List (Int × (L.yb × L.yb))))))) : (Int × (ByteArray × (ByteArray × (L.yb × L.T8)))))).take 0) else K ([] : List (Int × (ByteArray × (ByteArray × (L.yb × L.T8)))))))
structure L.d1 (n : Int) (K : L.T2 → Prop) : Prop where
  out : L.d1_B n K
def L.d1_ss : List Sh := [.nil, .int .i64]
def L.d1_os : List OSh := []
def L.d1_G (vs : List V) (st : List Ob) (K : V → List Ob → Prop) : Prop := L.d1 (gI (gA vs 1)) (fun r0 => K (.vec 0) [.vec L.T1 0 r0])
def L.d1_S : SemO := fun args st K => argO L.d1_ss L.d1_os args st fun a s => L.d1_G a s K
theorem L.d1_eq (n : Int) (K : V → List Ob → Prop) : runH L.pg L.Γ_d1 L.Δ_d1 .leaf (.sl L.T1) [] Tryd.f51 false 0 [.x (.slice none 0 0), .xi n] [] K = L.d1_B n (fun r0 => K (.vec 0) [.vec L.T1 0 r0]) := by
  kernel_rfl
theorem L.d1_imp (vs : List V) (st : List Ob) (K : V → List Ob → Prop) : Imp (L.d1_G vs st K) (runH L.pg L.Γ_d1 L.Δ_d1 .leaf (.sl L.T1) [] Tryd.f51 false 0 (mkL L.d1_ss 0 vs) (mkOs L.d1_os 0 st) K) :=
  Imp.of (Eq.trans (b := runH L.pg L.Γ_d1 L.Δ_d1 .leaf (.sl L.T1) [] Tryd.f51 false 0 [.x (.slice none 0 0), .xi (gI (gA vs 1))] [] K) (by kernel_rfl) (L.d1_eq (gI (gA vs 1)) K)) fun h => (L.d1.out h)
theorem L.d1_ok : SoundO L.pg 51 L.d1_S :=
  fnO_ok (sem := runH L.pg L.Γ_d1 L.Δ_d1 .leaf (.sl L.T1) [] Tryd.f51 false 0) (ss := L.d1_ss) (os := L.d1_os) (G := L.d1_G) (runH_ok L.Γ_d1_ok L.Δ_d1_ok Tryd.func51 (ann := .leaf) rfl (annOk_leaf _)) L.d1_imp
def L.Γ_a4 : Ctx := L.Γ_d1
theorem L.Γ_a4_ok : SoundG L.pg L.Γ_a4 := L.Γ_d1_ok
def L.Δ_a4 : CtxO := ctxE L.Δ_d1 51 [.any, .any] L.d1_ss L.d1_os L.d1_G
theorem L.Δ_a4_ok : SoundGO L.pg L.Δ_a4 := ctxE_ok L.Δ_d1_ok L.d1_ok
def L.a4_L1_b (v9 : (List L.T2)) (v10 : Int) (size : Int) (v11 : Int) (self : Int → Int → Prop) (Kx0 : Int → Prop) : Prop :=
  (bif (decide (v11 < v10)) then (inB v11 v9.length) ∧ (bif (decide ((i64 (size + ((v9.getD v11.toNat []).length : Int))) < 0)) then False else self (i64 (size + ((v9.getD v11.toNat []).length : Int))) (i64 (v11 + 1))) else Kx0 size)
def L.a4_L1_R (v9 : (List L.T2)) (v10 : Int) : Nat → Int → Int → (Int → Prop) → Prop
  | 0, _, _, _ => False
  | fu + 1, size, v11, Kx0 => L.a4_L1_b v9 v10 size v11 (fun size v11 => L.a4_L1_R v9 v10 fu size v11 Kx0) Kx0
structure L.a4_L1 (v9 : (List L.T2)) (v10 : Int) (size : Int) (v11 : Int) (Kx0 : Int → Prop) : Prop where
  out : ∃ fu, L.a4_L1_R v9 v10 fu size v11 Kx0
def L.a4_L1_d : LoopD := { base := 0, vecs := [], flds := [], keep := [0, 3, 9, 10, 11], out := [0, 3], rets := [2], rv := [], rbase := 0 }
def L.a4_L1_ss : List Sh := [.ro L.T0, .int .i64, .ro L.T0, .int .i64, .int .i64]
def L.a4_L1_os : List OSh := []
def L.a4_L1_G (vs : List V) (st : List Ob) (K : Ex → St) : Prop := L.a4_L1 (gR L.T0 (gA vs 2)) (gI (gA vs 3)) (gI (gA vs 1)) (gI (gA vs 4)) (fun q0_ => K (.exit 0) (bld [0, 3] [.ro L.T0 (gR L.T0 (gA vs 0)), .xi q0_] 0 36) [])
def L.a4_L1_F (vs : List V) (st : List Ob) (K : Ex → St) : Prop := fitF L.a4_L1_ss L.a4_L1_os vs st (L.a4_L1_G vs st K)
theorem L.a4_L1_eq (slices1 : (List L.T2)) (v9 : (List L.T2)) (v10 : Int) (K : Ex → St) : ∀ (fu : Nat) (size : Int) (v11 : Int), L.a4_L1_R v9 v10 fu size v11 (fun q0_ => K (.exit 0) (bld [0, 3] [.ro L.T0 slices1, .xi q0_] 0 36) []) = iterL (stepL (exec L.pg (CC L.pg L.Γ_a4 L.Δ_a4) (drawD L.pg L.Γ_a4 L.Δ_a4) .leaf (sub [true, true, false, true, false, false] (codeOf Tryd.f27))) 0 L.a4_L1_d K) fu (bld L.a4_L1_d.keep [.ro L.T0 slices1, .xi size, .ro L.T0 v9, .xi v10, .xi v11] 0 36) [] := by
  intro fu
  induction fu with
  | zero => intros; rfl
  | succ fu ih =>
    intro size v11
    have e : (fun size v11 => L.a4_L1_R v9 v10 fu size v11 (fun q0_ => K (.exit 0) (bld [0, 3] [.ro L.T0 slices1, .xi q0_] 0 36) [])) = fun size v11 => iterL (stepL (exec L.pg (CC L.pg L.Γ_a4 L.Δ_a4) (drawD L.pg L.Γ_a4 L.Δ_a4) .leaf (sub [true, true, false, true, false, false] (codeOf Tryd.f27))) 0 L.a4_L1_d K) fu (bld L.a4_L1_d.keep [.ro L.T0 slices1, .xi size, .ro L.T0 v9, .xi v10, .xi v11] 0 36) [] := by
      funext size v11; exact ih size v11
    show L.a4_L1_b v9 v10 size v11 (fun size v11 => L.a4_L1_R v9 v10 fu size v11 (fun q0_ => K (.exit 0) (bld [0, 3] [.ro L.T0 slices1, .xi q0_] 0 36) [])) (fun q0_ => K (.exit 0) (bld [0, 3] [.ro L.T0 slices1, .xi q0_] 0 36) []) = _
    rw [e]
    kernel_rfl
theorem L.a4_L1_imp (vs : List V) (st : List Ob) (K : Ex → St) (h : L.a4_L1_G vs st K) : ∃ fu, iterL (stepL (exec L.pg (CC L.pg L.Γ_a4 L.Δ_a4) (drawD L.pg L.Γ_a4 L.Δ_a4) .leaf (sub [true, true, false, true, false, false] (codeOf Tryd.f27))) 0 L.a4_L1_d K) fu (bld L.a4_L1_d.keep (mkL L.a4_L1_ss 0 vs) 0 36) (mkOs L.a4_L1_os 0 st) :=
  exMap (fun fu h => @Eq.mp _ _ (Eq.trans (L.a4_L1_eq (gR L.T0 (gA vs 0)) (gR L.T0 (gA vs 2)) (gI (gA vs 3)) K fu (gI (gA vs 1)) (gI (gA vs 4))) (by kernel_rfl)) h) (L.a4_L1.out h)
theorem L.a4_L1_ok : AnnOk L.pg (CC L.pg L.Γ_a4 L.Δ_a4) (drawD L.pg L.Γ_a4 L.Δ_a4) 0 (.lift L.a4_L1_d 36 L.a4_L1_F) (.loop (sub [true, true, false, true, false, false] (codeOf Tryd.f27))) :=
  lift_ok (an := .leaf) (ss := L.a4_L1_ss) (os := L.a4_L1_os) (G := L.a4_L1_G) rfl (Nat.le_of_ble_eq_true rfl) (annOk_leaf _) (L.a4_L1_imp)
def L.a4_L2_b (v25 : (List L.T2)) (v26 : Int) (v27 : Int) (newslice : L.T2) (self : Int → L.T2 → Prop) (Kx2 : L.T2 → Prop) : Prop :=
  (bif (decide (v27 < v26)) then (inB v27 v25.length) ∧ (fits (newslice.length + (v25.getD v27.toNat []).length)) ∧ self (i64 (v27 + 1)) (newslice ++ (v25.getD v27.toNat [])) else Kx2 newslice)
def L.a4_L2_R (v25 : (List L.T2)) (v26 : Int) : Nat → Int → L.T2 → (L.T2 → Prop) → Prop
  | 0, _, _, _ => False
  | fu + 1, v27, newslice, Kx2 => L.a4_L2_b v25 v26 v27 newslice (fun v27 newslice => L.a4_L2_R v25 v26 fu v27 newslice Kx2) Kx2
structure L.a4_L2 (v25 : (List L.T2)) (v26 : Int) (v27 : Int) (newslice : L.T2) (Kx2 : L.T2 → Prop) : Prop where
  out : ∃ fu, L.a4_L2_R v25 v26 fu v27 newslice Kx2
def L.a4_L2_d : LoopD := { base := 1, vecs := [(6, .sl L.T1)], flds := [], keep := [6, 25, 26, 27], out := [6], rets := [2], rv := [], rbase := 0 }
def L.a4_L2_ss : List Sh := [.vec 1, .ro L.T0, .int .i64, .int .i64]
def L.a4_L2_os : List OSh := [.dead, .vec L.T1 true]
def L.a4_L2_G (vs : List V) (st : List Ob) (K : Ex → St) : Prop := L.a4_L2 (gR L.T0 (gA vs 1)) (gI (gA vs 2)) (gI (gA vs 3)) (oX L.T1 (gD st 1)) (fun q0_ => K (.exit 2) (bld [6] [.vec 1] 0 36) [.dead, .vec L.T1 0 q0_])
def L.a4_L2_F (vs : List V) (st : List Ob) (K : Ex → St) : Prop := fitF L.a4_L2_ss L.a4_L2_os vs st (L.a4_L2_G vs st K)
theorem L.a4_L2_eq (v25 : (List L.T2)) (v26 : Int) (K : Ex → St) : ∀ (fu : Nat) (v27 : Int) (newslice : L.T2), L.a4_L2_R v25 v26 fu v27 newslice (fun q0_ => K (.exit 2) (bld [6] [.vec 1] 0 36) [.dead, .vec L.T1 0 q0_]) = iterL (stepL (exec L.pg (CC L.pg L.Γ_a4 L.Δ_a4) (drawD L.pg L.Γ_a4 L.Δ_a4) .leaf (sub [true, true, true, true, false, true, false, false] (codeOf Tryd.f27))) 1 L.a4_L2_d K) fu (bld L.a4_L2_d.keep [.vec 1, .ro L.T0 v25, .xi v26, .xi v27] 0 36) [.dead, .vec L.T1 0 newslice] := by
  intro fu
  induction fu with
  | zero => intros; rfl
  | succ fu ih =>
    intro v27 newslice
    have e : (fun v27 newslice => L.a4_L2_R v25 v26 fu v27 newslice (fun q0_ => K (.exit 2) (bld [6] [.vec 1] 0 36) [.dead, .vec L.T1 0 q0_])) = fun v27 newslice => iterL (stepL (exec L.pg (CC L.pg L.Γ_a4 L.Δ_a4) (drawD L.pg L.Γ_a4 L.Δ_a4) .leaf (sub [true, true, true, true, false, true, false, false] (codeOf Tryd.f27))) 1 L.a4_L2_d K) fu (bld L.a4_L2_d.keep [.vec 1, .ro L.T0 v25, .xi v26, .xi v27] 0 36) [.dead, .vec L.T1 0 newslice] := by
      funext v27 newslice; exact ih v27 newslice
    show L.a4_L2_b v25 v26 v27 newslice (fun v27 newslice => L.a4_L2_R v25 v26 fu v27 newslice (fun q0_ => K (.exit 2) (bld [6] [.vec 1] 0 36) [.dead, .vec L.T1 0 q0_])) (fun q0_ => K (.exit 2) (bld [6] [.vec 1] 0 36) [.dead, .vec L.T1 0 q0_]) = _
    rw [e]
    kernel_rfl
theorem L.a4_L2_imp (vs : List V) (st : List Ob) (K : Ex → St) (h : L.a4_L2_G vs st K) : ∃ fu, iterL (stepL (exec L.pg (CC L.pg L.Γ_a4 L.Δ_a4) (drawD L.pg L.Γ_a4 L.Δ_a4) .leaf (sub [true, true, true, true, false, true, false, false] (codeOf Tryd.f27))) 1 L.a4_L2_d K) fu (bld L.a4_L2_d.keep (mkL L.a4_L2_ss 0 vs) 0 36) (mkOs L.a4_L2_os 0 st) :=
  exMap (fun fu h => @Eq.mp _ _ (Eq.trans (L.a4_L2_eq (gR L.T0 (gA vs 1)) (gI (gA vs 2)) K fu (gI (gA vs 3)) (oX L.T1 (gD st 1))) (by kernel_rfl)) h) (L.a4_L2.out h)
theorem L.a4_L2_ok : AnnOk L.pg (CC L.pg L.Γ_a4 L.Δ_a4) (drawD L.pg L.Γ_a4 L.Δ_a4) 0 (.lift L.a4_L2_d 36 L.a4_L2_F) (.loop (sub [true, true, true, true, false, true, false, false] (codeOf Tryd.f27))) :=
  lift_ok (an := .leaf) (ss := L.a4_L2_ss) (os := L.a4_L2_os) (G := L.a4_L2_G) rfl (Nat.le_of_ble_eq_true rfl) (annOk_leaf _) (L.a4_L2_imp)
def L.a4_B (slices : (List L.T2)) (K : L.T2 → Prop) : Prop :=
  L.a4_L1 slices (slices.length : Int) 0 0 (fun size => L.d1 size (fun r => L.a4_L2 slices (slices.length : Int) 0 r (fun newslice => K newslice)))
structure L.a4 (slices : (List L.T2)) (K : L.T2 → Prop) : Prop where
  out : L.a4_B slices K
def L.a4_ss : List Sh := [.ro L.T0]
def L.a4_os : List OSh := []
def L.a4_G (vs : List V) (st : List Ob) (K : V → List Ob → Prop) : Prop := L.a4 (gR L.T0 (gA vs 0)) (fun r0 => K (.vec 0) [.vec L.T1 0 r0])
def L.a4_S : SemO := fun args st K => argO L.a4_ss L.a4_os args st fun a s => L.a4_G a s K
theorem L.a4_eq (slices : (List L.T2)) (K : V → List Ob → Prop) : runH L.pg L.Γ_a4 L.Δ_a4 (.node .leaf (.node .leaf (.node (.node .leaf (.lift L.a4_L1_d 36 L.a4_L1_F)) (.node .leaf (.node (.node .leaf (.lift L.a4_L2_d 36 L.a4_L2_F)) .leaf))))) (.sl L.T1) [] Tryd.f27 false 0 [.ro L.T0 slices] [] K = L.a4_B slices (fun r0 => K (.vec 0) [.vec L.T1 0 r0]) := by
  kernel_rfl
theorem L.a4_imp (vs : List V) (st : List Ob) (K : V → List Ob → Prop) : Imp (L.a4_G vs st K) (runH L.pg L.Γ_a4 L.Δ_a4 (.node .leaf (.node .leaf (.node (.node .leaf (.lift L.a4_L1_d 36 L.a4_L1_F)) (.node .leaf (.node (.node .leaf (.lift L.a4_L2_d 36 L.a4_L2_F)) .leaf))))) (.sl L.T1) [] Tryd.f27 false 0 (mkL L.a4_ss 0 vs) (mkOs L.a4_os 0 st) K) :=
  Imp.of (Eq.trans (b := runH L.pg L.Γ_a4 L.Δ_a4 (.node .leaf (.node .leaf (.node (.node .leaf (.lift L.a4_L1_d 36 L.a4_L1_F)) (.node .leaf (.node (.node .leaf (.lift L.a4_L2_d 36 L.a4_L2_F)) .leaf))))) (.sl L.T1) [] Tryd.f27 false 0 [.ro L.T0 (gR L.T0 (gA vs 0))] [] K) (by kernel_rfl) (L.a4_eq (gR L.T0 (gA vs 0)) K)) fun h => (L.a4.out h)
theorem L.a4_ok : SoundO L.pg 27 L.a4_S :=
  fnO_ok (sem := runH L.pg L.Γ_a4 L.Δ_a4 (.node .leaf (.node .leaf (.node (.node .leaf (.lift L.a4_L1_d 36 L.a4_L1_F)) (.node .leaf (.node (.node .leaf (.lift L.a4_L2_d 36 L.a4_L2_F)) .leaf))))) (.sl L.T1) [] Tryd.f27 false 0) (ss := L.a4_ss) (os := L.a4_os) (G := L.a4_G) (runH_ok L.Γ_a4_ok L.Δ_a4_ok Tryd.func27 (ann := (.node .leaf (.node .leaf (.node (.node .leaf (.lift L.a4_L1_d 36 L.a4_L1_F)) (.node .leaf (.node (.node .leaf (.lift L.a4_L2_d 36 L.a4_L2_F)) .leaf)))))) rfl ⟨(annOk_leaf _), ⟨(annOk_leaf _), ⟨⟨(annOk_leaf _), L.a4_L1_ok⟩, ⟨(annOk_leaf _), ⟨⟨(annOk_leaf _), L.a4_L2_ok⟩, (annOk_leaf _)⟩⟩⟩⟩⟩) L.a4_imp
def L.Γ_a2 : Ctx := L.Γ_a4
theorem L.Γ_a2_ok : SoundG L.pg L.Γ_a2 := L.Γ_a4_ok
def L.Δ_a2 : CtxO := ctxE L.Δ_a4 27 [.ro L.T0] L.a4_ss L.a4_os L.a4_G
theorem L.Δ_a2_ok : SoundGO L.pg L.Δ_a2 := ctxE_ok L.Δ_a4_ok L.a4_ok
def L.a2_J1_B (edits : L.T2) (f : ByteArray) (p : L.T8) (Kn : L.T2 → Prop) : Prop :=
  (bif (decide ((p.length : Int) > 0)) then (fits (edits.length + ([(4, (f, (L.str1, (([] : List ByteArray), p))))] : List (Int × (ByteArray × (ByteArray × (L.yb × L.T8))))).length)) ∧ Kn (edits ++ ([(4, (f, (L.str1, (([] : List ByteArray), p))))] : List (Int × (ByteArray × (ByteArray × (L.yb × L.T8)))))) else Kn edits)
structure L.a2_J1 (edits : L.T2) (f : ByteArray) (p : L.T8) (Kn : L.T2 → Prop) : Prop where
  out : L.a2_J1_B edits f p Kn
def L.a2_J1_d : CutD := { base := 9, vecs := [], flds := [], keep := [2, 3, 4, 5, 8, 9, 10, 12, 15, 37, 38, 39], out := [2, 3, 4, 5, 8, 9, 10, 37, 38, 39], rets := [4, 5], ovecs := [(9, .mv L.T1)], oflds := [], rv := [], rbase := 6 }
def L.a2_J1_ss : List Sh := [.cl 0 0, .cl 1 0, .cl 2 0, .cl 3 0, .vec 6, .vec 7, .nil, .cl 8 0, .cl 9 0, .ro L.ya, .int .i64, .int .i64]
def L.a2_J1_os : List OSh := [.cells [.ro L.ya], .cells [.ro L.ya], .cells [.nil], .cells [.int .i64, .int .i64], .cells [.int .i64, .int .i64], .cells [.int .i64, .int .i64], .vec L.T1 true, .vec L.T1 true, .cells [.str, .ro .str], .cells [.ro L.T7]]
def L.a2_J1_G (vs : List V) (st : List Ob) (K : Ex → St) : Prop := L.a2_J1 (oX L.T1 (gD st 7)) (gS ((oC (gD st 8)).getD 0 .any)) (gR L.T7 ((oC (gD st 9)).getD 0 .any)) (fun q0_ => K .normal (bld [2, 3, 4, 5, 8, 9, 10, 37, 38, 39] [.cl 0 0, .cl 1 0, .cl 2 0, .cl 3 0, .vec 6, .vec 9, .x (.slice none 0 0), .ro L.ya (gR L.ya (gA vs 9)), .xi (gI (gA vs 10)), .xi (gI (gA vs 11))] 0 126) [.cells [.ro L.ya (gR L.ya ((oC (gD st 0)).getD 0 .any))], .cells [.ro L.ya (gR L.ya ((oC (gD st 1)).getD 0 .any))], .cells [.x (.slice none 0 0)], .cells [.xi (cI st 3 0), .xi (cI st 3 1)], .cells [.xi (cI st 4 0), .xi (cI st 4 1)], .cells [.xi (cI st 5 0), .xi (cI st 5 1)], .vec L.T1 0 (oX L.T1 (gD st 6)), .dead, .cells [.x (.string (gS ((oC (gD st 8)).getD 0 .any))), .ro .str (gR .str ((oC (gD st 8)).getD 1 .any))], .vec L.T1 0 q0_])
def L.a2_J1_F (vs : List V) (st : List Ob) (K : Ex → St) : Prop := fitF L.a2_J1_ss L.a2_J1_os vs st (L.a2_J1_G vs st K)
theorem L.a2_J1_eq (v37 : L.T9) (v38 : Int) (v39 : Int) (old1 : L.T9) (newer1 : L.T9) (m3 : Int) (m31 : Int) (m4 : Int) (m41 : Int) (m5 : Int) (m51 : Int) (gone : L.T2) (edits : L.T2) (f : ByteArray) (f1 : L.yb) (p : L.T8) (K : Ex → St) : L.a2_J1_B edits f p (fun q0_ => K .normal (bld [2, 3, 4, 5, 8, 9, 10, 37, 38, 39] [.cl 0 0, .cl 1 0, .cl 2 0, .cl 3 0, .vec 6, .vec 9, .x (.slice none 0 0), .ro L.ya v37, .xi v38, .xi v39] 0 126) [.cells [.ro L.ya old1], .cells [.ro L.ya newer1], .cells [.x (.slice none 0 0)], .cells [.xi m3, .xi m31], .cells [.xi m4, .xi m41], .cells [.xi m5, .xi m51], .vec L.T1 0 gone, .dead, .cells [.x (.string f), .ro .str f1], .vec L.T1 0 q0_]) = exec L.pg (CC L.pg L.Γ_a2 L.Δ_a2) (drawD L.pg L.Γ_a2 L.Δ_a2) .leaf (sub [true, true, true, true, false, true, false, false, true, true, false, false, true, true, true, true, true] (codeOf Tryd.f10)) (bld L.a2_J1_d.keep [.cl 0 0, .cl 1 0, .cl 2 0, .cl 3 0, .vec 6, .vec 7, .x (.slice none 0 0), .cl 8 0, .cl 9 0, .ro L.ya v37, .xi v38, .xi v39] 0 126) [.cells [.ro L.ya old1], .cells [.ro L.ya newer1], .cells [.x (.slice none 0 0)], .cells [.xi m3, .xi m31], .cells [.xi m4, .xi m41], .cells [.xi m5, .xi m51], .vec L.T1 0 gone, .vec L.T1 0 edits, .cells [.x (.string f), .ro .str f1], .cells [.ro L.T7 p]] (cutK L.a2_J1_d K) := by
  kernel_rfl
theorem L.a2_J1_ok (vs : List V) (st : List Ob) (K : Ex → St) : Imp (L.a2_J1_G vs st K) (exec L.pg (CC L.pg L.Γ_a2 L.Δ_a2) (drawD L.pg L.Γ_a2 L.Δ_a2) .leaf (sub [true, true, true, true, false, true, false, false, true, true, false, false, true, true, true, true, true] (codeOf Tryd.f10)) (bld L.a2_J1_d.keep (mkL L.a2_J1_ss 0 vs) 0 126) (mkOs L.a2_J1_os 0 st) (cutK L.a2_J1_d K)) :=
  Imp.of (Eq.trans (b := exec L.pg (CC L.pg L.Γ_a2 L.Δ_a2) (drawD L.pg L.Γ_a2 L.Δ_a2) .leaf (sub [true, true, true, true, false, true, false, false, true, true, false, false, true, true, true, true, true] (codeOf Tryd.f10)) (bld L.a2_J1_d.keep [.cl 0 0, .cl 1 0, .cl 2 0, .cl 3 0, .vec 6, .vec 7, .x (.slice none 0 0), .cl 8 0, .cl 9 0, .ro L.ya (gR L.ya (gA vs 9)), .xi (gI (gA vs 10)), .xi (gI (gA vs 11))] 0 126) [.cells [.ro L.ya (gR L.ya ((oC (gD st 0)).getD 0 .any))], .cells [.ro L.ya (gR L.ya ((oC (gD st 1)).getD 0 .any))], .cells [.x (.slice none 0 0)], .cells [.xi (cI st 3 0), .xi (cI st 3 1)], .cells [.xi (cI st 4 0), .xi (cI st 4 1)], .cells [.xi (cI st 5 0), .xi (cI st 5 1)], .vec L.T1 0 (oX L.T1 (gD st 6)), .vec L.T1 0 (oX L.T1 (gD st 7)), .cells [.x (.string (gS ((oC (gD st 8)).getD 0 .any))), .ro .str (gR .str ((oC (gD st 8)).getD 1 .any))], .cells [.ro L.T7 (gR L.T7 ((oC (gD st 9)).getD 0 .any))]] (cutK L.a2_J1_d K)) (by kernel_rfl) (Eq.symm (L.a2_J1_eq (gR L.ya (gA vs 9)) (gI (gA vs 10)) (gI (gA vs 11)) (gR L.ya ((oC (gD st 0)).getD 0 .any)) (gR L.ya ((oC (gD st 1)).getD 0 .any)) (cI st 3 0) (cI st 3 1) (cI st 4 0) (cI st 4 1) (cI st 5 0) (cI st 5 1) (oX L.T1 (gD st 6)) (oX L.T1 (gD st 7)) (gS ((oC (gD st 8)).getD 0 .any)) (gR .str ((oC (gD st 8)).getD 1 .any)) (gR L.T7 ((oC (gD st 9)).getD 0 .any)) K))) fun h => (L.a2_J1.out h)
def L.a2_L1_b (v37 : L.T9) (v38 : Int) (newer1 : L.T9) (v39 : Int) (gone : L.T2) (edits : L.T2) (self : Int → L.T2 → L.T2 → Prop) (Kx0 : L.T2 → L.T2 → Prop) : Prop :=
  (bif (decide (v39 < v38)) then (inB v39 v37.length) ∧ L.c6 newer1 ((v37.getD v39.toNat (ByteArray.empty, [])).1) (fun r r1 => (bif (!r1) then (L.c8 ((v37.getD v39.toNat (ByteArray.empty, [])).2) (fun r2 => (fits (gone.length + ([(2, ((v37.getD v39.toNat (ByteArray.empty, [])).1, (L.str1, (r2, ([] : List (Int × (L.yb × L.yb)))))))] : List (Int × (ByteArray × (ByteArray × (L.yb × L.T8))))).length)) ∧ self (i64 (v39 + 1)) (gone ++ ([(2, ((v37.getD v39.toNat (ByteArray.empty, [])).1, (L.str1, (r2, ([] : List (Int × (L.yb × L.yb)))))))] : List (Int × (ByteArray × (ByteArray × (L.yb × L.T8)))))) edits)) ∧ L.c8 ((v37.getD v39.toNat (ByteArray.empty, [])).2) (fun r3 => (fits (gone.length + ([(2, ((v37.getD v39.toNat (ByteArray.empty, [])).1, (L.str1, (r3, ([] : List (Int × (L.yb × L.yb)))))))] : List (Int × (ByteArray × (ByteArray × (L.yb × L.T8))))).length)) ∧ self (i64 (v39 + 1)) (gone ++ ([(2, ((v37.getD v39.toNat (ByteArray.empty, [])).1, (L.str1, (r3, ([] : List (Int × (L.yb × L.yb)))))))] : List (Int × (ByteArray × (ByteArray × (L.yb × L.T8)))))) edits) else (inB r newer1.length) ∧ (L.a8 ((v37.getD v39.toNat (ByteArray.empty, [])).2) ((newer1.getD r.toNat (ByteArray.empty, [])).2) (fun r4 r5 r6 => (L.a2_J1 edits ((v37.getD v39.toNat (ByteArray.empty, [])).1) r4 (self (i64 (v39 + 1)) gone)) ∧ L.a2_J1 edits ((v37.getD v39.toNat (ByteArray.empty, [])).1) r4 (self (i64 (v39 + 1)) gone))) ∧ ((L.a8 ((v37.getD v39.toNat (ByteArray.empty, [])).2) ((newer1.getD r.toNat (ByteArray.empty, [])).2) (fun r7 r8 r9 => L.a2_J1 edits ((v37.getD v39.toNat (ByteArray.empty, [])).1) r7 (self (i64 (v39 + 1)) gone))) ∧ L.a8 ((v37.getD v39.toNat (ByteArray.empty, [])).2) ((newer1.getD r.toNat (ByteArray.empty, [])).2) (fun r10 r11 r12 => L.a2_J1 edits ((v37.getD v39.toNat (ByteArray.empty, [])).1) r10 (self (i64 (v39 + 1)) gone))) ∧ (L.a8 ((v37.getD v39.toNat (ByteArray.empty, [])).2) ((newer1.getD r.toNat (ByteArray.empty, [])).2) (fun r13 r14 r15 => L.a2_J1 edits ((v37.getD v39.toNat (ByteArray.empty, [])).1) r13 (self (i64 (v39 + 1)) gone))) ∧ L.a8 ((v37.getD v39.toNat (ByteArray.empty, [])).2) ((newer1.getD r.toNat (ByteArray.empty, [])).2) (fun r16 r17 r18 => L.a2_J1 edits ((v37.getD v39.toNat (ByteArray.empty, [])).1) r16 (self (i64 (v39 + 1)) gone)))) else Kx0 gone edits)
def L.a2_L1_R (v37 : L.T9) (v38 : Int) (newer1 : L.T9) : Nat → Int → L.T2 → L.T2 → (L.T2 → L.T2 → Prop) → Prop
  | 0, _, _, _, _ => False
  | fu + 1, v39, gone, edits, Kx0 => L.a2_L1_b v37 v38 newer1 v39 gone edits (fun v39 gone edits => L.a2_L1_R v37 v38 newer1 fu v39 gone edits Kx0) Kx0
structure L.a2_L1 (v37 : L.T9) (v38 : Int) (newer1 : L.T9) (v39 : Int) (gone : L.T2) (edits : L.T2) (Kx0 : L.T2 → L.T2 → Prop) : Prop where
  out : ∃ fu, L.a2_L1_R v37 v38 newer1 fu v39 gone edits Kx0
def L.a2_L1_d : LoopD := { base := 6, vecs := [(8, .sl L.T1), (9, .sl L.T1)], flds := [], keep := [2, 3, 4, 5, 8, 9, 10, 37, 38, 39], out := [2, 3, 4, 5, 8, 9, 10], rets := [4, 5], rv := [], rbase := 0 }
def L.a2_L1_ss : List Sh := [.cl 0 0, .cl 1 0, .cl 2 0, .cl 3 0, .vec 6, .vec 7, .nil, .ro L.ya, .int .i64, .int .i64]
def L.a2_L1_os : List OSh := [.cells [.ro L.ya], .cells [.ro L.ya], .cells [.nil], .cells [.int .i64, .int .i64], .cells [.int .i64, .int .i64], .cells [.int .i64, .int .i64], .vec L.T1 true, .vec L.T1 true]
def L.a2_L1_G (vs : List V) (st : List Ob) (K : Ex → St) : Prop := L.a2_L1 (gR L.ya (gA vs 7)) (gI (gA vs 8)) (gR L.ya ((oC (gD st 1)).getD 0 .any)) (gI (gA vs 9)) (oX L.T1 (gD st 6)) (oX L.T1 (gD st 7)) (fun q0_ q1_ => K (.exit 0) (bld [2, 3, 4, 5, 8, 9, 10] [.cl 0 0, .cl 1 0, .cl 2 0, .cl 3 0, .vec 6, .vec 7, .x (.slice none 0 0)] 0 126) [.cells [.ro L.ya (gR L.ya ((oC (gD st 0)).getD 0 .any))], .cells [.ro L.ya (gR L.ya ((oC (gD st 1)).getD 0 .any))], .cells [.x (.slice none 0 0)], .cells [.xi (cI st 3 0), .xi (cI st 3 1)], .cells [.xi (cI st 4 0), .xi (cI st 4 1)], .cells [.xi (cI st 5 0), .xi (cI st 5 1)], .vec L.T1 0 q0_, .vec L.T1 0 q1_])
def L.a2_L1_F (vs : List V) (st : List Ob) (K : Ex → St) : Prop := fitF L.a2_L1_ss L.a2_L1_os vs st (L.a2_L1_G vs st K)
theorem L.a2_L1_eq (v37 : L.T9) (v38 : Int) (old1 : L.T9) (newer1 : L.T9) (m3 : Int) (m31 : Int) (m4 : Int) (m41 : Int) (m5 : Int) (m51 : Int) (K : Ex → St) : ∀ (fu : Nat) (v39 : Int) (gone : L.T2) (edits : L.T2), L.a2_L1_R v37 v38 newer1 fu v39 gone edits (fun q0_ q1_ => K (.exit 0) (bld [2, 3, 4, 5, 8, 9, 10] [.cl 0 0, .cl 1 0, .cl 2 0, .cl 3 0, .vec 6, .vec 7, .x (.slice none 0 0)] 0 126) [.cells [.ro L.ya old1], .cells [.ro L.ya newer1], .cells [.x (.slice none 0 0)], .cells [.xi m3, .xi m31], .cells [.xi m4, .xi m41], .cells [.xi m5, .xi m51], .vec L.T1 0 q0_, .vec L.T1 0 q1_]) = iterL (stepL (exec L.pg (CC L.pg L.Γ_a2 L.Δ_a2) (drawD L.pg L.Γ_a2 L.Δ_a2) (.node .leaf (.node .leaf (.node (.node .leaf (.node .leaf (.node .leaf (.node .leaf (.cut .leaf L.a2_J1_d 126 L.a2_J1_F))))) .leaf))) (sub [true, true, true, true, false, true, false, false] (codeOf Tryd.f10))) 6 L.a2_L1_d K) fu (bld L.a2_L1_d.keep [.cl 0 0, .cl 1 0, .cl 2 0, .cl 3 0, .vec 6, .vec 7, .x (.slice none 0 0), .ro L.ya v37, .xi v38, .xi v39] 0 126) [.cells [.ro L.ya old1], .cells [.ro L.ya newer1], .cells [.x (.slice none 0 0)], .cells [.xi m3, .xi m31], .cells [.xi m4, .xi m41], .cells [.xi m5, .xi m51], .vec L.T1 0 gone, .vec L.T1 0 edits] := by
  intro fu
  induction fu with
  | zero => intros; rfl
  | succ fu ih =>
    intro v39 gone edits
    have e : (fun v39 gone edits => L.a2_L1_R v37 v38 newer1 fu v39 gone edits (fun q0_ q1_ => K (.exit 0) (bld [2, 3, 4, 5, 8, 9, 10] [.cl 0 0, .cl 1 0, .cl 2 0, .cl 3 0, .vec 6, .vec 7, .x (.slice none 0 0)] 0 126) [.cells [.ro L.ya old1], .cells [.ro L.ya newer1], .cells [.x (.slice none 0 0)], .cells [.xi m3, .xi m31], .cells [.xi m4, .xi m41], .cells [.xi m5, .xi m51], .vec L.T1 0 q0_, .vec L.T1 0 q1_])) = fun v39 gone edits => iterL (stepL (exec L.pg (CC L.pg L.Γ_a2 L.Δ_a2) (drawD L.pg L.Γ_a2 L.Δ_a2) (.node .leaf (.node .leaf (.node (.node .leaf (.node .leaf (.node .leaf (.node .leaf (.cut .leaf L.a2_J1_d 126 L.a2_J1_F))))) .leaf))) (sub [true, true, true, true, false, true, false, false] (codeOf Tryd.f10))) 6 L.a2_L1_d K) fu (bld L.a2_L1_d.keep [.cl 0 0, .cl 1 0, .cl 2 0, .cl 3 0, .vec 6, .vec 7, .x (.slice none 0 0), .ro L.ya v37, .xi v38, .xi v39] 0 126) [.cells [.ro L.ya old1], .cells [.ro L.ya newer1], .cells [.x (.slice none 0 0)], .cells [.xi m3, .xi m31], .cells [.xi m4, .xi m41], .cells [.xi m5, .xi m51], .vec L.T1 0 gone, .vec L.T1 0 edits] := by
      funext v39 gone edits; exact ih v39 gone edits
    show L.a2_L1_b v37 v38 newer1 v39 gone edits (fun v39 gone edits => L.a2_L1_R v37 v38 newer1 fu v39 gone edits (fun q0_ q1_ => K (.exit 0) (bld [2, 3, 4, 5, 8, 9, 10] [.cl 0 0, .cl 1 0, .cl 2 0, .cl 3 0, .vec 6, .vec 7, .x (.slice none 0 0)] 0 126) [.cells [.ro L.ya old1], .cells [.ro L.ya newer1], .cells [.x (.slice none 0 0)], .cells [.xi m3, .xi m31], .cells [.xi m4, .xi m41], .cells [.xi m5, .xi m51], .vec L.T1 0 q0_, .vec L.T1 0 q1_])) (fun q0_ q1_ => K (.exit 0) (bld [2, 3, 4, 5, 8, 9, 10] [.cl 0 0, .cl 1 0, .cl 2 0, .cl 3 0, .vec 6, .vec 7, .x (.slice none 0 0)] 0 126) [.cells [.ro L.ya old1], .cells [.ro L.ya newer1], .cells [.x (.slice none 0 0)], .cells [.xi m3, .xi m31], .cells [.xi m4, .xi m41], .cells [.xi m5, .xi m51], .vec L.T1 0 q0_, .vec L.T1 0 q1_]) = _
    rw [e]
    kernel_rfl
theorem L.a2_L1_imp (vs : List V) (st : List Ob) (K : Ex → St) (h : L.a2_L1_G vs st K) : ∃ fu, iterL (stepL (exec L.pg (CC L.pg L.Γ_a2 L.Δ_a2) (drawD L.pg L.Γ_a2 L.Δ_a2) (.node .leaf (.node .leaf (.node (.node .leaf (.node .leaf (.node .leaf (.node .leaf (.cut .leaf L.a2_J1_d 126 L.a2_J1_F))))) .leaf))) (sub [true, true, true, true, false, true, false, false] (codeOf Tryd.f10))) 6 L.a2_L1_d K) fu (bld L.a2_L1_d.keep (mkL L.a2_L1_ss 0 vs) 0 126) (mkOs L.a2_L1_os 0 st) :=
  exMap (fun fu h => @Eq.mp _ _ (Eq.trans (L.a2_L1_eq (gR L.ya (gA vs 7)) (gI (gA vs 8)) (gR L.ya ((oC (gD st 0)).getD 0 .any)) (gR L.ya ((oC (gD st 1)).getD 0 .any)) (cI st 3 0) (cI st 3 1) (cI st 4 0) (cI st 4 1) (cI st 5 0) (cI st 5 1) K fu (gI (gA vs 9)) (oX L.T1 (gD st 6)) (oX L.T1 (gD st 7))) (by kernel_rfl)) h) (L.a2_L1.out h)
theorem L.a2_L1_ok : AnnOk L.pg (CC L.pg L.Γ_a2 L.Δ_a2) (drawD L.pg L.Γ_a2 L.Δ_a2) 0 (.lift L.a2_L1_d 126 L.a2_L1_F) (.loop (sub [true, true, true, true, false, true, false, false] (codeOf Tryd.f10))) :=
  lift_ok (an := (.node .leaf (.node .leaf (.node (.node .leaf (.node .leaf (.node .leaf (.node .leaf (.cut .leaf L.a2_J1_d 126 L.a2_J1_F))))) .leaf)))) (ss := L.a2_L1_ss) (os := L.a2_L1_os) (G := L.a2_L1_G) rfl (Nat.le_of_ble_eq_true rfl) ⟨(annOk_leaf _), ⟨(annOk_leaf _), ⟨⟨(annOk_leaf _), ⟨(annOk_leaf _), ⟨(annOk_leaf _), ⟨(annOk_leaf _), (cut_ok (ay := .leaf) (ss := L.a2_J1_ss) (os := L.a2_J1_os) (G := L.a2_J1_G) rfl (annOk_leaf _) (Nat.le_of_ble_eq_true rfl) (Nat.le_of_ble_eq_true rfl) (annOk_leaf _) L.a2_J1_ok)⟩⟩⟩⟩, (annOk_leaf _)⟩⟩⟩ (L.a2_L1_imp)
def L.a2_L2_b (v87 : L.T9) (v88 : Int) (old1 : L.T9) (v89 : Int) (added : L.T2) (self : Int → L.T2 → Prop) (Kx2 : L.T2 → Prop) : Prop :=
  (bif (decide (v89 < v88)) then (inB v89 v87.length) ∧ L.c6 old1 ((v87.getD v89.toNat (ByteArray.empty, [])).1) (fun r r1 => (bif (!r1) then (L.c8 ((v87.getD v89.toNat (ByteArray.empty, [])).2) (fun r2 => (fits (added.length + ([(1, ((v87.getD v89.toNat (ByteArray.empty, [])).1, (L.str1, (r2, ([] : List (Int × (L.yb × L.yb)))))))] : List (Int × (ByteArray × (ByteArray × (L.yb × L.T8))))).length)) ∧ self (i64 (v89 + 1)) (added ++ ([(1, ((v87.getD v89.toNat (ByteArray.empty, [])).1, (L.str1, (r2, ([] : List (Int × (L.yb × L.yb)))))))] : List (Int × (ByteArray × (ByteArray × (L.yb × L.T8)))))))) ∧ L.c8 ((v87.getD v89.toNat (ByteArray.empty, [])).2) (fun r3 => (fits (added.length + ([(1, ((v87.getD v89.toNat (ByteArray.empty, [])).1, (L.str1, (r3, ([] : List (Int × (L.yb × L.yb)))))))] : List (Int × (ByteArray × (ByteArray × (L.yb × L.T8))))).length)) ∧ self (i64 (v89 + 1)) (added ++ ([(1, ((v87.getD v89.toNat (ByteArray.empty, [])).1, (L.str1, (r3, ([] : List (Int × (L.yb × L.yb)))))))] : List (Int × (ByteArray × (ByteArray × (L.yb × L.T8))))))) else self (i64 (v89 + 1)) added)) else Kx2 added)
def L.a2_L2_R (v87 : L.T9) (v88 : Int) (old1 : L.T9) : Nat → Int → L.T2 → (L.T2 → Prop) → Prop
  | 0, _, _, _ => False
  | fu + 1, v89, added, Kx2 => L.a2_L2_b v87 v88 old1 v89 added (fun v89 added => L.a2_L2_R v87 v88 old1 fu v89 added Kx2) Kx2
structure L.a2_L2 (v87 : L.T9) (v88 : Int) (old1 : L.T9) (v89 : Int) (added : L.T2) (Kx2 : L.T2 → Prop) : Prop where
  out : ∃ fu, L.a2_L2_R v87 v88 old1 fu v89 added Kx2
def L.a2_L2_d : LoopD := { base := 8, vecs := [(10, .sl L.T1)], flds := [], keep := [2, 4, 5, 8, 9, 10, 87, 88, 89], out := [4, 5, 8, 9, 10], rets := [4, 5], rv := [], rbase := 0 }
def L.a2_L2_ss : List Sh := [.cl 0 0, .cl 2 0, .cl 3 0, .vec 6, .vec 7, .vec 8, .ro L.ya, .int .i64, .int .i64]
def L.a2_L2_os : List OSh := [.cells [.ro L.ya], .cells [.ro L.ya], .cells [.nil], .cells [.int .i64, .int .i64], .cells [.int .i64, .int .i64], .cells [.int .i64, .int .i64], .vec L.T1 true, .vec L.T1 true, .vec L.T1 true]
def L.a2_L2_G (vs : List V) (st : List Ob) (K : Ex → St) : Prop := L.a2_L2 (gR L.ya (gA vs 6)) (gI (gA vs 7)) (gR L.ya ((oC (gD st 0)).getD 0 .any)) (gI (gA vs 8)) (oX L.T1 (gD st 8)) (fun q0_ => K (.exit 2) (bld [4, 5, 8, 9, 10] [.cl 2 0, .cl 3 0, .vec 6, .vec 7, .vec 8] 0 126) [.cells [.ro L.ya (gR L.ya ((oC (gD st 0)).getD 0 .any))], .cells [.ro L.ya (gR L.ya ((oC (gD st 1)).getD 0 .any))], .cells [.x (.slice none 0 0)], .cells [.xi (cI st 3 0), .xi (cI st 3 1)], .cells [.xi (cI st 4 0), .xi (cI st 4 1)], .cells [.xi (cI st 5 0), .xi (cI st 5 1)], .vec L.T1 0 (oX L.T1 (gD st 6)), .vec L.T1 0 (oX L.T1 (gD st 7)), .vec L.T1 0 q0_])
def L.a2_L2_F (vs : List V) (st : List Ob) (K : Ex → St) : Prop := fitF L.a2_L2_ss L.a2_L2_os vs st (L.a2_L2_G vs st K)
theorem L.a2_L2_eq (v87 : L.T9) (v88 : Int) (old1 : L.T9) (m1 : L.T9) (m3 : Int) (m31 : Int) (m4 : Int) (m41 : Int) (m5 : Int) (m51 : Int) (gone1 : L.T2) (edits1 : L.T2) (K : Ex → St) : ∀ (fu : Nat) (v89 : Int) (added : L.T2), L.a2_L2_R v87 v88 old1 fu v89 added (fun q0_ => K (.exit 2) (bld [4, 5, 8, 9, 10] [.cl 2 0, .cl 3 0, .vec 6, .vec 7, .vec 8] 0 126) [.cells [.ro L.ya old1], .cells [.ro L.ya m1], .cells [.x (.slice none 0 0)], .cells [.xi m3, .xi m31], .cells [.xi m4, .xi m41], .cells [.xi m5, .xi m51], .vec L.T1 0 gone1, .vec L.T1 0 edits1, .vec L.T1 0 q0_]) = iterL (stepL (exec L.pg (CC L.pg L.Γ_a2 L.Δ_a2) (drawD L.pg L.Γ_a2 L.Δ_a2) .leaf (sub [true, true, true, true, true, false, true, false, false] (codeOf Tryd.f10))) 8 L.a2_L2_d K) fu (bld L.a2_L2_d.keep [.cl 0 0, .cl 2 0, .cl 3 0, .vec 6, .vec 7, .vec 8, .ro L.ya v87, .xi v88, .xi v89] 0 126) [.cells [.ro L.ya old1], .cells [.ro L.ya m1], .cells [.x (.slice none 0 0)], .cells [.xi m3, .xi m31], .cells [.xi m4, .xi m41], .cells [.xi m5, .xi m51], .vec L.T1 0 gone1, .vec L.T1 0 edits1, .vec L.T1 0 added] := by
  intro fu
  induction fu with
  | zero => intros; rfl
  | succ fu ih =>
    intro v89 added
    have e : (fun v89 added => L.a2_L2_R v87 v88 old1 fu v89 added (fun q0_ => K (.exit 2) (bld [4, 5, 8, 9, 10] [.cl 2 0, .cl 3 0, .vec 6, .vec 7, .vec 8] 0 126) [.cells [.ro L.ya old1], .cells [.ro L.ya m1], .cells [.x (.slice none 0 0)], .cells [.xi m3, .xi m31], .cells [.xi m4, .xi m41], .cells [.xi m5, .xi m51], .vec L.T1 0 gone1, .vec L.T1 0 edits1, .vec L.T1 0 q0_])) = fun v89 added => iterL (stepL (exec L.pg (CC L.pg L.Γ_a2 L.Δ_a2) (drawD L.pg L.Γ_a2 L.Δ_a2) .leaf (sub [true, true, true, true, true, false, true, false, false] (codeOf Tryd.f10))) 8 L.a2_L2_d K) fu (bld L.a2_L2_d.keep [.cl 0 0, .cl 2 0, .cl 3 0, .vec 6, .vec 7, .vec 8, .ro L.ya v87, .xi v88, .xi v89] 0 126) [.cells [.ro L.ya old1], .cells [.ro L.ya m1], .cells [.x (.slice none 0 0)], .cells [.xi m3, .xi m31], .cells [.xi m4, .xi m41], .cells [.xi m5, .xi m51], .vec L.T1 0 gone1, .vec L.T1 0 edits1, .vec L.T1 0 added] := by
      funext v89 added; exact ih v89 added
    show L.a2_L2_b v87 v88 old1 v89 added (fun v89 added => L.a2_L2_R v87 v88 old1 fu v89 added (fun q0_ => K (.exit 2) (bld [4, 5, 8, 9, 10] [.cl 2 0, .cl 3 0, .vec 6, .vec 7, .vec 8] 0 126) [.cells [.ro L.ya old1], .cells [.ro L.ya m1], .cells [.x (.slice none 0 0)], .cells [.xi m3, .xi m31], .cells [.xi m4, .xi m41], .cells [.xi m5, .xi m51], .vec L.T1 0 gone1, .vec L.T1 0 edits1, .vec L.T1 0 q0_])) (fun q0_ => K (.exit 2) (bld [4, 5, 8, 9, 10] [.cl 2 0, .cl 3 0, .vec 6, .vec 7, .vec 8] 0 126) [.cells [.ro L.ya old1], .cells [.ro L.ya m1], .cells [.x (.slice none 0 0)], .cells [.xi m3, .xi m31], .cells [.xi m4, .xi m41], .cells [.xi m5, .xi m51], .vec L.T1 0 gone1, .vec L.T1 0 edits1, .vec L.T1 0 q0_]) = _
    rw [e]
    kernel_rfl
theorem L.a2_L2_imp (vs : List V) (st : List Ob) (K : Ex → St) (h : L.a2_L2_G vs st K) : ∃ fu, iterL (stepL (exec L.pg (CC L.pg L.Γ_a2 L.Δ_a2) (drawD L.pg L.Γ_a2 L.Δ_a2) .leaf (sub [true, true, true, true, true, false, true, false, false] (codeOf Tryd.f10))) 8 L.a2_L2_d K) fu (bld L.a2_L2_d.keep (mkL L.a2_L2_ss 0 vs) 0 126) (mkOs L.a2_L2_os 0 st) :=
  exMap (fun fu h => @Eq.mp _ _ (Eq.trans (L.a2_L2_eq (gR L.ya (gA vs 6)) (gI (gA vs 7)) (gR L.ya ((oC (gD st 0)).getD 0 .any)) (gR L.ya ((oC (gD st 1)).getD 0 .any)) (cI st 3 0) (cI st 3 1) (cI st 4 0) (cI st 4 1) (cI st 5 0) (cI st 5 1) (oX L.T1 (gD st 6)) (oX L.T1 (gD st 7)) K fu (gI (gA vs 8)) (oX L.T1 (gD st 8))) (by kernel_rfl)) h) (L.a2_L2.out h)
theorem L.a2_L2_ok : AnnOk L.pg (CC L.pg L.Γ_a2 L.Δ_a2) (drawD L.pg L.Γ_a2 L.Δ_a2) 0 (.lift L.a2_L2_d 126 L.a2_L2_F) (.loop (sub [true, true, true, true, true, false, true, false, false] (codeOf Tryd.f10))) :=
  lift_ok (an := .leaf) (ss := L.a2_L2_ss) (os := L.a2_L2_os) (G := L.a2_L2_G) rfl (Nat.le_of_ble_eq_true rfl) (annOk_leaf _) (L.a2_L2_imp)
def L.a2_B (old : L.T9) (newer : L.T9) (K : Int → Int → L.T2 → Prop) : Prop :=
  L.b6 old (fun rCode rIndex => (bif (!((rCode == 0) && ((rIndex == 0) && true))) then (K rCode rIndex ([] : List (Int × (ByteArray × (ByteArray × (L.yb × L.T8)))))) ∧ K rCode rIndex ([] : List (Int × (ByteArray × (ByteArray × (L.yb × L.T8))))) else L.e3 newer (-2) (fun rCode1 rIndex1 => (bif (!((rCode1 == 0) && ((rIndex1 == 0) && true))) then (K rCode1 rIndex1 ([] : List (Int × (ByteArray × (ByteArray × (L.yb × L.T8)))))) ∧ K rCode1 rIndex1 ([] : List (Int × (ByteArray × (ByteArray × (L.yb × L.T8))))) else L.a2_L1 old (old.length : Int) newer 0 ([] : List (Int × (ByteArray × (ByteArray × (L.yb × L.T8))))) ([] : List (Int × (ByteArray × (ByteArray × (L.yb × L.T8))))) (fun gone edits => L.a2_L2 newer (newer.length : Int) old 0 ([] : List (Int × (ByteArray × (ByteArray × (L.yb × L.T8))))) (fun added => L.a4 ([gone, edits, added] : List L.T2) (fun r => (bif (decide ((r.length : Int) > 30)) then K 10 (-1) ([] : List (Int × (ByteArray × (ByteArray × (L.yb × L.T8))))) else K 0 0 r))))))))
structure L.a2 (old : L.T9) (newer : L.T9) (K : Int → Int → L.T2 → Prop) : Prop where
  out : L.a2_B old newer K
def L.a2_ss : List Sh := [.agg [.ro L.ya], .agg [.ro L.ya]]
def L.a2_os : List OSh := []
def L.a2_G (vs : List V) (st : List Ob) (K : V → List Ob → Prop) : Prop := L.a2 (gR L.ya ((gC (gA vs 0)).getD 0 .any)) (gR L.ya ((gC (gA vs 1)).getD 0 .any)) (fun r0 r1 r2 => K (.tup [.agg [.vec 0], .agg [.xi r0, .xi r1]]) [.vec L.T1 0 r2])
def L.a2_S : SemO := fun args st K => argO L.a2_ss L.a2_os args st fun a s => L.a2_G a s K
theorem L.a2_eq (old : L.T9) (newer : L.T9) (K : V → List Ob → Prop) : runH L.pg L.Γ_a2 L.Δ_a2 (.node .leaf (.node .leaf (.node .leaf (.node .leaf (.node (.node .leaf (.lift L.a2_L1_d 126 L.a2_L1_F)) (.node (.node .leaf (.lift L.a2_L2_d 126 L.a2_L2_F)) .leaf)))))) (.tup [(.agg [(.sl L.T1)]), (.agg [.any, .any])]) [] Tryd.f10 false 0 [.agg [.ro L.ya old], .agg [.ro L.ya newer]] [] K = L.a2_B old newer (fun r0 r1 r2 => K (.tup [.agg [.vec 0], .agg [.xi r0, .xi r1]]) [.vec L.T1 0 r2]) := by
  kernel_rfl
theorem L.a2_imp (vs : List V) (st : List Ob) (K : V → List Ob → Prop) : Imp (L.a2_G vs st K) (runH L.pg L.Γ_a2 L.Δ_a2 (.node .leaf (.node .leaf (.node .leaf (.node .leaf (.node (.node .leaf (.lift L.a2_L1_d 126 L.a2_L1_F)) (.node (.node .leaf (.lift L.a2_L2_d 126 L.a2_L2_F)) .leaf)))))) (.tup [(.agg [(.sl L.T1)]), (.agg [.any, .any])]) [] Tryd.f10 false 0 (mkL L.a2_ss 0 vs) (mkOs L.a2_os 0 st) K) :=
  Imp.of (Eq.trans (b := runH L.pg L.Γ_a2 L.Δ_a2 (.node .leaf (.node .leaf (.node .leaf (.node .leaf (.node (.node .leaf (.lift L.a2_L1_d 126 L.a2_L1_F)) (.node (.node .leaf (.lift L.a2_L2_d 126 L.a2_L2_F)) .leaf)))))) (.tup [(.agg [(.sl L.T1)]), (.agg [.any, .any])]) [] Tryd.f10 false 0 [.agg [.ro L.ya (gR L.ya ((gC (gA vs 0)).getD 0 .any))], .agg [.ro L.ya (gR L.ya ((gC (gA vs 1)).getD 0 .any))]] [] K) (by kernel_rfl) (L.a2_eq (gR L.ya ((gC (gA vs 0)).getD 0 .any)) (gR L.ya ((gC (gA vs 1)).getD 0 .any)) K)) fun h => (L.a2.out h)
theorem L.a2_ok : SoundO L.pg 10 L.a2_S :=
  fnO_ok (sem := runH L.pg L.Γ_a2 L.Δ_a2 (.node .leaf (.node .leaf (.node .leaf (.node .leaf (.node (.node .leaf (.lift L.a2_L1_d 126 L.a2_L1_F)) (.node (.node .leaf (.lift L.a2_L2_d 126 L.a2_L2_F)) .leaf)))))) (.tup [(.agg [(.sl L.T1)]), (.agg [.any, .any])]) [] Tryd.f10 false 0) (ss := L.a2_ss) (os := L.a2_os) (G := L.a2_G) (runH_ok L.Γ_a2_ok L.Δ_a2_ok Tryd.func10 (ann := (.node .leaf (.node .leaf (.node .leaf (.node .leaf (.node (.node .leaf (.lift L.a2_L1_d 126 L.a2_L1_F)) (.node (.node .leaf (.lift L.a2_L2_d 126 L.a2_L2_F)) .leaf))))))) rfl ⟨(annOk_leaf _), ⟨(annOk_leaf _), ⟨(annOk_leaf _), ⟨(annOk_leaf _), ⟨⟨(annOk_leaf _), L.a2_L1_ok⟩, ⟨⟨(annOk_leaf _), L.a2_L2_ok⟩, (annOk_leaf _)⟩⟩⟩⟩⟩⟩) L.a2_imp
def L.Γ_d7 : Ctx := L.Γ_a2
theorem L.Γ_d7_ok : SoundG L.pg L.Γ_d7 := L.Γ_a2_ok
def L.Δ_d7 : CtxO := ctxE L.Δ_a2 10 [.agg [.ro L.ya], .agg [.ro L.ya]] L.a2_ss L.a2_os L.a2_G
theorem L.Δ_d7_ok : SoundGO L.pg L.Δ_d7 := ctxE_ok L.Δ_a2_ok L.a2_ok
def L.d7_B (h_At : Int) (h_Old : L.yb) (h_New : L.yb) (K : Int → Prop) : Prop :=
  K (i64 (h_At + (h_Old.length : Int)))
structure L.d7 (h_At : Int) (h_Old : L.yb) (h_New : L.yb) (K : Int → Prop) : Prop where
  out : L.d7_B h_At h_Old h_New K
def L.d7_ss : List Sh := [.agg [.int .i64, .ro .str, .ro .str]]
def L.d7_G (vs : List V) (K : V → List Ob → Prop) : Prop := L.d7 (gI ((gC (gA vs 0)).getD 0 .any)) (gR .str ((gC (gA vs 0)).getD 1 .any)) (gR .str ((gC (gA vs 0)).getD 2 .any)) (fun r0 => K (.xi r0) [])
def L.d7_S : SemF := fun args K => argF L.d7_ss args fun a => L.d7_G a K
theorem L.d7_eq (h_At : Int) (h_Old : L.yb) (h_New : L.yb) (K : V → List Ob → Prop) : run L.pg L.Γ_d7 L.Δ_d7 .leaf .any Tryd.f39 [.agg [.xi h_At, .ro .str h_Old, .ro .str h_New]] K = L.d7_B h_At h_Old h_New (fun r0 => K (.xi r0) []) := by
  kernel_rfl
theorem L.d7_imp (vs : List V) (K : V → List Ob → Prop) : Imp (L.d7_G vs K) (run L.pg L.Γ_d7 L.Δ_d7 .leaf .any Tryd.f39 (mkL L.d7_ss 0 vs) K) :=
  Imp.of (Eq.trans (b := run L.pg L.Γ_d7 L.Δ_d7 .leaf .any Tryd.f39 [.agg [.xi (gI ((gC (gA vs 0)).getD 0 .any)), .ro .str (gR .str ((gC (gA vs 0)).getD 1 .any)), .ro .str (gR .str ((gC (gA vs 0)).getD 2 .any))]] K) (by kernel_rfl) (L.d7_eq (gI ((gC (gA vs 0)).getD 0 .any)) (gR .str ((gC (gA vs 0)).getD 1 .any)) (gR .str ((gC (gA vs 0)).getD 2 .any)) K)) fun h => (L.d7.out h)
theorem L.d7_ok : SoundFn L.pg 39 L.d7_S :=
  fn_ok (sem := run L.pg L.Γ_d7 L.Δ_d7 .leaf .any Tryd.f39) (ss := L.d7_ss) (G := L.d7_G) (run_ok L.Γ_d7_ok L.Δ_d7_ok Tryd.func39 (ann := .leaf) (annOk_leaf _)) L.d7_imp
def L.Γ_b1 : Ctx := ctxC L.Γ_d7 39 L.d7_S
theorem L.Γ_b1_ok : SoundG L.pg L.Γ_b1 := ctxC_ok L.Γ_d7_ok L.d7_ok
def L.Δ_b1 : CtxO := L.Δ_d7
theorem L.Δ_b1_ok : SoundGO L.pg L.Δ_b1 := L.Δ_d7_ok
def L.b1_L1_b (v20 : L.yb) (v201 : L.yb) (v21 : Int) (self : Int → Prop) (Kx0 : Prop) (Kr : Int → Prop) : Prop :=
  (bif (decide (v21 < 2)) then (inB v21 2) ∧ L.b2 (([v20, v201] : List L.yb).getD v21.toNat []) (fun rCode rIndex => (bif (!((rCode == 0) && ((rIndex == 0) && true))) then Kr rCode else self (i64 (v21 + 1)))) else Kx0)
def L.b1_L1_R (v20 : L.yb) (v201 : L.yb) : Nat → Int → (Prop) → (Int → Prop) → Prop
  | 0, _, _, _ => False
  | fu + 1, v21, Kx0, Kr => L.b1_L1_b v20 v201 v21 (fun v21 => L.b1_L1_R v20 v201 fu v21 Kx0 Kr) Kx0 Kr
structure L.b1_L1 (v20 : L.yb) (v201 : L.yb) (v21 : Int) (Kx0 : Prop) (Kr : Int → Prop) : Prop where
  out : ∃ fu, L.b1_L1_R v20 v201 fu v21 Kx0 Kr
def L.b1_L1_d : LoopD := { base := 1, vecs := [], flds := [], keep := [1, 2, 20, 21], out := [1, 2], rets := [4], rv := [], rbase := 0 }
def L.b1_L1_ss : List Sh := [.int .i64, .cl 0 0, .agg [.ro .str, .ro .str], .int .i64]
def L.b1_L1_os : List OSh := [.cells [.int .i64, .ro .str, .ro .str]]
def L.b1_L1_G (vs : List V) (st : List Ob) (K : Ex → St) : Prop := L.b1_L1 (gR .str ((gC (gA vs 2)).getD 0 .any)) (gR .str ((gC (gA vs 2)).getD 1 .any)) (gI (gA vs 3)) (K (.exit 0) (bld [1, 2] [.xi (gI (gA vs 0)), .cl 0 0] 0 49) [.cells [.xi (cI st 0 0), .ro .str (gR .str ((oC (gD st 0)).getD 1 .any)), .ro .str (gR .str ((oC (gD st 0)).getD 2 .any))]]) (fun q0_ => K .ret (bld [4] [.xi q0_] 0 49) [])
def L.b1_L1_F (vs : List V) (st : List Ob) (K : Ex → St) : Prop := fitF L.b1_L1_ss L.b1_L1_os vs st (L.b1_L1_G vs st K)
theorem L.b1_L1_eq (end_1 : Int) (v20 : L.yb) (v201 : L.yb) (h : Int) (h1 : L.yb) (h2 : L.yb) (K : Ex → St) : ∀ (fu : Nat) (v21 : Int), L.b1_L1_R v20 v201 fu v21 (K (.exit 0) (bld [1, 2] [.xi end_1, .cl 0 0] 0 49) [.cells [.xi h, .ro .str h1, .ro .str h2]]) (fun q0_ => K .ret (bld [4] [.xi q0_] 0 49) []) = iterL (stepL (exec L.pg (CC L.pg L.Γ_b1 L.Δ_b1) (drawD L.pg L.Γ_b1 L.Δ_b1) .leaf (sub [true, true, false, true, false, false] (codeOf Tryd.f38))) 1 L.b1_L1_d K) fu (bld L.b1_L1_d.keep [.xi end_1, .cl 0 0, .agg [.ro .str v20, .ro .str v201], .xi v21] 0 49) [.cells [.xi h, .ro .str h1, .ro .str h2]] := by
  intro fu
  induction fu with
  | zero => intros; rfl
  | succ fu ih =>
    intro v21
    have e : (fun v21 => L.b1_L1_R v20 v201 fu v21 (K (.exit 0) (bld [1, 2] [.xi end_1, .cl 0 0] 0 49) [.cells [.xi h, .ro .str h1, .ro .str h2]]) (fun q0_ => K .ret (bld [4] [.xi q0_] 0 49) [])) = fun v21 => iterL (stepL (exec L.pg (CC L.pg L.Γ_b1 L.Δ_b1) (drawD L.pg L.Γ_b1 L.Δ_b1) .leaf (sub [true, true, false, true, false, false] (codeOf Tryd.f38))) 1 L.b1_L1_d K) fu (bld L.b1_L1_d.keep [.xi end_1, .cl 0 0, .agg [.ro .str v20, .ro .str v201], .xi v21] 0 49) [.cells [.xi h, .ro .str h1, .ro .str h2]] := by
      funext v21; exact ih v21
    show L.b1_L1_b v20 v201 v21 (fun v21 => L.b1_L1_R v20 v201 fu v21 (K (.exit 0) (bld [1, 2] [.xi end_1, .cl 0 0] 0 49) [.cells [.xi h, .ro .str h1, .ro .str h2]]) (fun q0_ => K .ret (bld [4] [.xi q0_] 0 49) [])) (K (.exit 0) (bld [1, 2] [.xi end_1, .cl 0 0] 0 49) [.cells [.xi h, .ro .str h1, .ro .str h2]]) (fun q0_ => K .ret (bld [4] [.xi q0_] 0 49) []) = _
    rw [e]
    kernel_rfl
theorem L.b1_L1_imp (vs : List V) (st : List Ob) (K : Ex → St) (h : L.b1_L1_G vs st K) : ∃ fu, iterL (stepL (exec L.pg (CC L.pg L.Γ_b1 L.Δ_b1) (drawD L.pg L.Γ_b1 L.Δ_b1) .leaf (sub [true, true, false, true, false, false] (codeOf Tryd.f38))) 1 L.b1_L1_d K) fu (bld L.b1_L1_d.keep (mkL L.b1_L1_ss 0 vs) 0 49) (mkOs L.b1_L1_os 0 st) :=
  exMap (fun fu h => @Eq.mp _ _ (Eq.trans (L.b1_L1_eq (gI (gA vs 0)) (gR .str ((gC (gA vs 2)).getD 0 .any)) (gR .str ((gC (gA vs 2)).getD 1 .any)) (cI st 0 0) (gR .str ((oC (gD st 0)).getD 1 .any)) (gR .str ((oC (gD st 0)).getD 2 .any)) K fu (gI (gA vs 3))) (by kernel_rfl)) h) (L.b1_L1.out h)
theorem L.b1_L1_ok : AnnOk L.pg (CC L.pg L.Γ_b1 L.Δ_b1) (drawD L.pg L.Γ_b1 L.Δ_b1) 0 (.lift L.b1_L1_d 49 L.b1_L1_F) (.loop (sub [true, true, false, true, false, false] (codeOf Tryd.f38))) :=
  lift_ok (an := .leaf) (ss := L.b1_L1_ss) (os := L.b1_L1_os) (G := L.b1_L1_G) rfl (Nat.le_of_ble_eq_true rfl) (annOk_leaf _) (L.b1_L1_imp)
def L.b1_B (h_At : Int) (h_Old : L.yb) (h_New : L.yb) (end_ : Int) (K : Int → Prop) : Prop :=
  (bif (bif (decide (h_At < 0)) then true else (decide (h_At > 120))) then K 3 else L.b1_L1 h_Old h_New 0 ((bif (bif ((i64 ((h_Old.length : Int) + (h_New.length : Int))) == 0) then true else (decide (h_At ≤ end_))) then K 5 else L.d7 h_At h_Old h_New (fun r => (bif (decide (r > 120)) then K 3 else K 0)))) (fun r1 => K r1))
structure L.b1 (h_At : Int) (h_Old : L.yb) (h_New : L.yb) (end_ : Int) (K : Int → Prop) : Prop where
  out : L.b1_B h_At h_Old h_New end_ K
def L.b1_ss : List Sh := [.agg [.int .i64, .ro .str, .ro .str], .int .i64]
def L.b1_G (vs : List V) (K : V → List Ob → Prop) : Prop := L.b1 (gI ((gC (gA vs 0)).getD 0 .any)) (gR .str ((gC (gA vs 0)).getD 1 .any)) (gR .str ((gC (gA vs 0)).getD 2 .any)) (gI (gA vs 1)) (fun r0 => K (.xi r0) [])
def L.b1_S : SemF := fun args K => argF L.b1_ss args fun a => L.b1_G a K
theorem L.b1_eq (h_At : Int) (h_Old : L.yb) (h_New : L.yb) (end_ : Int) (K : V → List Ob → Prop) : run L.pg L.Γ_b1 L.Δ_b1 (.node .leaf (.node .leaf (.node (.node .leaf (.lift L.b1_L1_d 49 L.b1_L1_F)) .leaf))) .any Tryd.f38 [.agg [.xi h_At, .ro .str h_Old, .ro .str h_New], .xi end_] K = L.b1_B h_At h_Old h_New end_ (fun r0 => K (.xi r0) []) := by
  kernel_rfl
theorem L.b1_imp (vs : List V) (K : V → List Ob → Prop) : Imp (L.b1_G vs K) (run L.pg L.Γ_b1 L.Δ_b1 (.node .leaf (.node .leaf (.node (.node .leaf (.lift L.b1_L1_d 49 L.b1_L1_F)) .leaf))) .any Tryd.f38 (mkL L.b1_ss 0 vs) K) :=
  Imp.of (Eq.trans (b := run L.pg L.Γ_b1 L.Δ_b1 (.node .leaf (.node .leaf (.node (.node .leaf (.lift L.b1_L1_d 49 L.b1_L1_F)) .leaf))) .any Tryd.f38 [.agg [.xi (gI ((gC (gA vs 0)).getD 0 .any)), .ro .str (gR .str ((gC (gA vs 0)).getD 1 .any)), .ro .str (gR .str ((gC (gA vs 0)).getD 2 .any))], .xi (gI (gA vs 1))] K) (by kernel_rfl) (L.b1_eq (gI ((gC (gA vs 0)).getD 0 .any)) (gR .str ((gC (gA vs 0)).getD 1 .any)) (gR .str ((gC (gA vs 0)).getD 2 .any)) (gI (gA vs 1)) K)) fun h => (L.b1.out h)
theorem L.b1_ok : SoundFn L.pg 38 L.b1_S :=
  fn_ok (sem := run L.pg L.Γ_b1 L.Δ_b1 (.node .leaf (.node .leaf (.node (.node .leaf (.lift L.b1_L1_d 49 L.b1_L1_F)) .leaf))) .any Tryd.f38) (ss := L.b1_ss) (G := L.b1_G) (run_ok L.Γ_b1_ok L.Δ_b1_ok Tryd.func38 (ann := (.node .leaf (.node .leaf (.node (.node .leaf (.lift L.b1_L1_d 49 L.b1_L1_F)) .leaf)))) ⟨(annOk_leaf _), ⟨(annOk_leaf _), ⟨⟨(annOk_leaf _), L.b1_L1_ok⟩, (annOk_leaf _)⟩⟩⟩) L.b1_imp
def L.Γ_b5 : Ctx := ctxC L.Γ_b1 38 L.b1_S
theorem L.Γ_b5_ok : SoundG L.pg L.Γ_b5 := ctxC_ok L.Γ_b1_ok L.b1_ok
def L.Δ_b5 : CtxO := L.Δ_b1
theorem L.Δ_b5_ok : SoundGO L.pg L.Δ_b5 := L.Δ_b1_ok
def L.b5_L1_b (v13 : L.T8) (v14 : Int) (end_ : Int) (v15 : Int) (self : Int → Int → Prop) (Kx0 : Prop) (Kr : Int → Int → Prop) : Prop :=
  (bif (decide (v15 < v14)) then (inB v15 v13.length) ∧ L.b1 ((v13.getD v15.toNat (0, ([], []))).1) ((v13.getD v15.toNat (0, ([], []))).2.1) ((v13.getD v15.toNat (0, ([], []))).2.2) end_ (fun r => (bif (r != 0) then Kr r v15 else L.d7 ((v13.getD v15.toNat (0, ([], []))).1) ((v13.getD v15.toNat (0, ([], []))).2.1) ((v13.getD v15.toNat (0, ([], []))).2.2) (fun r1 => self r1 (i64 (v15 + 1))))) else Kx0)
def L.b5_L1_R (v13 : L.T8) (v14 : Int) : Nat → Int → Int → (Prop) → (Int → Int → Prop) → Prop
  | 0, _, _, _, _ => False
  | fu + 1, end_, v15, Kx0, Kr => L.b5_L1_b v13 v14 end_ v15 (fun end_ v15 => L.b5_L1_R v13 v14 fu end_ v15 Kx0 Kr) Kx0 Kr
structure L.b5_L1 (v13 : L.T8) (v14 : Int) (end_ : Int) (v15 : Int) (Kx0 : Prop) (Kr : Int → Int → Prop) : Prop where
  out : ∃ fu, L.b5_L1_R v13 v14 fu end_ v15 Kx0 Kr
def L.b5_L1_d : LoopD := { base := 2, vecs := [], flds := [], keep := [2, 3, 13, 14, 15], out := [2], rets := [2], rv := [], rbase := 0 }
def L.b5_L1_ss : List Sh := [.cl 1 0, .int .i64, .ro L.T7, .int .i64, .int .i64]
def L.b5_L1_os : List OSh := [.cells [.ro L.T7], .cells [.int .i64, .int .i64]]
def L.b5_L1_G (vs : List V) (st : List Ob) (K : Ex → St) : Prop := L.b5_L1 (gR L.T7 (gA vs 2)) (gI (gA vs 3)) (gI (gA vs 1)) (gI (gA vs 4)) (K (.exit 0) (bld [2] [.cl 1 0] 0 32) [.cells [.ro L.T7 (gR L.T7 ((oC (gD st 0)).getD 0 .any))], .cells [.xi (cI st 1 0), .xi (cI st 1 1)]]) (fun q0_ q1_ => K .ret (bld [2] [.cl 0 0] 0 32) [.cells [.xi q0_, .xi q1_]])
def L.b5_L1_F (vs : List V) (st : List Ob) (K : Ex → St) : Prop := fitF L.b5_L1_ss L.b5_L1_os vs st (L.b5_L1_G vs st K)
theorem L.b5_L1_eq (v13 : L.T8) (v14 : Int) (m0 : L.T8) (m1 : Int) (m11 : Int) (K : Ex → St) : ∀ (fu : Nat) (end_ : Int) (v15 : Int), L.b5_L1_R v13 v14 fu end_ v15 (K (.exit 0) (bld [2] [.cl 1 0] 0 32) [.cells [.ro L.T7 m0], .cells [.xi m1, .xi m11]]) (fun q0_ q1_ => K .ret (bld [2] [.cl 0 0] 0 32) [.cells [.xi q0_, .xi q1_]]) = iterL (stepL (exec L.pg (CC L.pg L.Γ_b5 L.Δ_b5) (drawD L.pg L.Γ_b5 L.Δ_b5) .leaf (sub [true, true, true, false, true, false, false] (codeOf Tryd.f17))) 2 L.b5_L1_d K) fu (bld L.b5_L1_d.keep [.cl 1 0, .xi end_, .ro L.T7 v13, .xi v14, .xi v15] 0 32) [.cells [.ro L.T7 m0], .cells [.xi m1, .xi m11]] := by
  intro fu
  induction fu with
  | zero => intros; rfl
  | succ fu ih =>
    intro end_ v15
    have e : (fun end_ v15 => L.b5_L1_R v13 v14 fu end_ v15 (K (.exit 0) (bld [2] [.cl 1 0] 0 32) [.cells [.ro L.T7 m0], .cells [.xi m1, .xi m11]]) (fun q0_ q1_ => K .ret (bld [2] [.cl 0 0] 0 32) [.cells [.xi q0_, .xi q1_]])) = fun end_ v15 => iterL (stepL (exec L.pg (CC L.pg L.Γ_b5 L.Δ_b5) (drawD L.pg L.Γ_b5 L.Δ_b5) .leaf (sub [true, true, true, false, true, false, false] (codeOf Tryd.f17))) 2 L.b5_L1_d K) fu (bld L.b5_L1_d.keep [.cl 1 0, .xi end_, .ro L.T7 v13, .xi v14, .xi v15] 0 32) [.cells [.ro L.T7 m0], .cells [.xi m1, .xi m11]] := by
      funext end_ v15; exact ih end_ v15
    show L.b5_L1_b v13 v14 end_ v15 (fun end_ v15 => L.b5_L1_R v13 v14 fu end_ v15 (K (.exit 0) (bld [2] [.cl 1 0] 0 32) [.cells [.ro L.T7 m0], .cells [.xi m1, .xi m11]]) (fun q0_ q1_ => K .ret (bld [2] [.cl 0 0] 0 32) [.cells [.xi q0_, .xi q1_]])) (K (.exit 0) (bld [2] [.cl 1 0] 0 32) [.cells [.ro L.T7 m0], .cells [.xi m1, .xi m11]]) (fun q0_ q1_ => K .ret (bld [2] [.cl 0 0] 0 32) [.cells [.xi q0_, .xi q1_]]) = _
    rw [e]
    kernel_rfl
theorem L.b5_L1_imp (vs : List V) (st : List Ob) (K : Ex → St) (h : L.b5_L1_G vs st K) : ∃ fu, iterL (stepL (exec L.pg (CC L.pg L.Γ_b5 L.Δ_b5) (drawD L.pg L.Γ_b5 L.Δ_b5) .leaf (sub [true, true, true, false, true, false, false] (codeOf Tryd.f17))) 2 L.b5_L1_d K) fu (bld L.b5_L1_d.keep (mkL L.b5_L1_ss 0 vs) 0 32) (mkOs L.b5_L1_os 0 st) :=
  exMap (fun fu h => @Eq.mp _ _ (Eq.trans (L.b5_L1_eq (gR L.T7 (gA vs 2)) (gI (gA vs 3)) (gR L.T7 ((oC (gD st 0)).getD 0 .any)) (cI st 1 0) (cI st 1 1) K fu (gI (gA vs 1)) (gI (gA vs 4))) (by kernel_rfl)) h) (L.b5_L1.out h)
theorem L.b5_L1_ok : AnnOk L.pg (CC L.pg L.Γ_b5 L.Δ_b5) (drawD L.pg L.Γ_b5 L.Δ_b5) 0 (.lift L.b5_L1_d 32 L.b5_L1_F) (.loop (sub [true, true, true, false, true, false, false] (codeOf Tryd.f17))) :=
  lift_ok (an := .leaf) (ss := L.b5_L1_ss) (os := L.b5_L1_os) (G := L.b5_L1_G) rfl (Nat.le_of_ble_eq_true rfl) (annOk_leaf _) (L.b5_L1_imp)
def L.b5_B (p_Hunks : L.T8) (K : Int → Int → Prop) : Prop :=
  (bif (decide ((p_Hunks.length : Int) > 130)) then K 2 (-1) else L.b5_L1 p_Hunks (p_Hunks.length : Int) (-1) 0 (K 0 0) (fun m r => K m r))
structure L.b5 (p_Hunks : L.T8) (K : Int → Int → Prop) : Prop where
  out : L.b5_B p_Hunks K
def L.b5_ss : List Sh := [.agg [.ro L.T7]]
def L.b5_G (vs : List V) (K : V → List Ob → Prop) : Prop := L.b5 (gR L.T7 ((gC (gA vs 0)).getD 0 .any)) (fun r0 r1 => K (.agg [.xi r0, .xi r1]) [])
def L.b5_S : SemF := fun args K => argF L.b5_ss args fun a => L.b5_G a K
theorem L.b5_eq (p_Hunks : L.T8) (K : V → List Ob → Prop) : run L.pg L.Γ_b5 L.Δ_b5 (.node .leaf (.node .leaf (.node .leaf (.node (.node .leaf (.lift L.b5_L1_d 32 L.b5_L1_F)) .leaf)))) .any Tryd.f17 [.agg [.ro L.T7 p_Hunks]] K = L.b5_B p_Hunks (fun r0 r1 => K (.agg [.xi r0, .xi r1]) []) := by
  kernel_rfl
theorem L.b5_imp (vs : List V) (K : V → List Ob → Prop) : Imp (L.b5_G vs K) (run L.pg L.Γ_b5 L.Δ_b5 (.node .leaf (.node .leaf (.node .leaf (.node (.node .leaf (.lift L.b5_L1_d 32 L.b5_L1_F)) .leaf)))) .any Tryd.f17 (mkL L.b5_ss 0 vs) K) :=
  Imp.of (Eq.trans (b := run L.pg L.Γ_b5 L.Δ_b5 (.node .leaf (.node .leaf (.node .leaf (.node (.node .leaf (.lift L.b5_L1_d 32 L.b5_L1_F)) .leaf)))) .any Tryd.f17 [.agg [.ro L.T7 (gR L.T7 ((gC (gA vs 0)).getD 0 .any))]] K) (by kernel_rfl) (L.b5_eq (gR L.T7 ((gC (gA vs 0)).getD 0 .any)) K)) fun h => (L.b5.out h)
theorem L.b5_ok : SoundFn L.pg 17 L.b5_S :=
  fn_ok (sem := run L.pg L.Γ_b5 L.Δ_b5 (.node .leaf (.node .leaf (.node .leaf (.node (.node .leaf (.lift L.b5_L1_d 32 L.b5_L1_F)) .leaf)))) .any Tryd.f17) (ss := L.b5_ss) (G := L.b5_G) (run_ok L.Γ_b5_ok L.Δ_b5_ok Tryd.func17 (ann := (.node .leaf (.node .leaf (.node .leaf (.node (.node .leaf (.lift L.b5_L1_d 32 L.b5_L1_F)) .leaf))))) ⟨(annOk_leaf _), ⟨(annOk_leaf _), ⟨(annOk_leaf _), ⟨⟨(annOk_leaf _), L.b5_L1_ok⟩, (annOk_leaf _)⟩⟩⟩⟩) L.b5_imp
def L.Γ_b8 : Ctx := ctxC L.Γ_b5 17 L.b5_S
theorem L.Γ_b8_ok : SoundG L.pg L.Γ_b8 := ctxC_ok L.Γ_b5_ok L.b5_ok
def L.Δ_b8 : CtxO := L.Δ_b5
theorem L.Δ_b8_ok : SoundGO L.pg L.Δ_b8 := L.Δ_b5_ok
def L.b8_L1_b (s11 : L.yb) (s21 : L.yb) (v12 : Int) (v13 : Int) (self : Int → Prop) (Kx0 : Prop) (Kr : Bool → Prop) : Prop :=
  (bif (decide (v13 < v12)) then (inB v13 s11.length) ∧ (inB v13 s21.length) ∧ (bif (!((s11.getD v13.toNat ByteArray.empty).toList == (s21.getD v13.toNat ByteArray.empty).toList)) then Kr false else self (i64 (v13 + 1))) else Kx0)
def L.b8_L1_R (s11 : L.yb) (s21 : L.yb) (v12 : Int) : Nat → Int → (Prop) → (Bool → Prop) → Prop
  | 0, _, _, _ => False
  | fu + 1, v13, Kx0, Kr => L.b8_L1_b s11 s21 v12 v13 (fun v13 => L.b8_L1_R s11 s21 v12 fu v13 Kx0 Kr) Kx0 Kr
structure L.b8_L1 (s11 : L.yb) (s21 : L.yb) (v12 : Int) (v13 : Int) (Kx0 : Prop) (Kr : Bool → Prop) : Prop where
  out : ∃ fu, L.b8_L1_R s11 s21 v12 fu v13 Kx0 Kr
def L.b8_L1_d : LoopD := { base := 0, vecs := [], flds := [], keep := [0, 1, 12, 13], out := [], rets := [4], rv := [], rbase := 0 }
def L.b8_L1_ss : List Sh := [.ro .str, .ro .str, .int .i64, .int .i64]
def L.b8_L1_os : List OSh := []
def L.b8_L1_G (vs : List V) (st : List Ob) (K : Ex → St) : Prop := L.b8_L1 (gR .str (gA vs 0)) (gR .str (gA vs 1)) (gI (gA vs 2)) (gI (gA vs 3)) (K (.exit 0) (bld [] [] 0 26) []) (fun q0_ => K .ret (bld [4] [.x (.bool q0_)] 0 26) [])
def L.b8_L1_F (vs : List V) (st : List Ob) (K : Ex → St) : Prop := fitF L.b8_L1_ss L.b8_L1_os vs st (L.b8_L1_G vs st K)
theorem L.b8_L1_eq (s11 : L.yb) (s21 : L.yb) (v12 : Int) (K : Ex → St) : ∀ (fu : Nat) (v13 : Int), L.b8_L1_R s11 s21 v12 fu v13 (K (.exit 0) (bld [] [] 0 26) []) (fun q0_ => K .ret (bld [4] [.x (.bool q0_)] 0 26) []) = iterL (stepL (exec L.pg (CC L.pg L.Γ_b8 L.Δ_b8) (drawD L.pg L.Γ_b8 L.Δ_b8) .leaf (sub [true, true, false, true, false, false] (codeOf Tryd.f40))) 0 L.b8_L1_d K) fu (bld L.b8_L1_d.keep [.ro .str s11, .ro .str s21, .xi v12, .xi v13] 0 26) [] := by
  intro fu
  induction fu with
  | zero => intros; rfl
  | succ fu ih =>
    intro v13
    have e : (fun v13 => L.b8_L1_R s11 s21 v12 fu v13 (K (.exit 0) (bld [] [] 0 26) []) (fun q0_ => K .ret (bld [4] [.x (.bool q0_)] 0 26) [])) = fun v13 => iterL (stepL (exec L.pg (CC L.pg L.Γ_b8 L.Δ_b8) (drawD L.pg L.Γ_b8 L.Δ_b8) .leaf (sub [true, true, false, true, false, false] (codeOf Tryd.f40))) 0 L.b8_L1_d K) fu (bld L.b8_L1_d.keep [.ro .str s11, .ro .str s21, .xi v12, .xi v13] 0 26) [] := by
      funext v13; exact ih v13
    show L.b8_L1_b s11 s21 v12 v13 (fun v13 => L.b8_L1_R s11 s21 v12 fu v13 (K (.exit 0) (bld [] [] 0 26) []) (fun q0_ => K .ret (bld [4] [.x (.bool q0_)] 0 26) [])) (K (.exit 0) (bld [] [] 0 26) []) (fun q0_ => K .ret (bld [4] [.x (.bool q0_)] 0 26) []) = _
    rw [e]
    kernel_rfl
theorem L.b8_L1_imp (vs : List V) (st : List Ob) (K : Ex → St) (h : L.b8_L1_G vs st K) : ∃ fu, iterL (stepL (exec L.pg (CC L.pg L.Γ_b8 L.Δ_b8) (drawD L.pg L.Γ_b8 L.Δ_b8) .leaf (sub [true, true, false, true, false, false] (codeOf Tryd.f40))) 0 L.b8_L1_d K) fu (bld L.b8_L1_d.keep (mkL L.b8_L1_ss 0 vs) 0 26) (mkOs L.b8_L1_os 0 st) :=
  exMap (fun fu h => @Eq.mp _ _ (Eq.trans (L.b8_L1_eq (gR .str (gA vs 0)) (gR .str (gA vs 1)) (gI (gA vs 2)) K fu (gI (gA vs 3))) (by kernel_rfl)) h) (L.b8_L1.out h)
theorem L.b8_L1_ok : AnnOk L.pg (CC L.pg L.Γ_b8 L.Δ_b8) (drawD L.pg L.Γ_b8 L.Δ_b8) 0 (.lift L.b8_L1_d 26 L.b8_L1_F) (.loop (sub [true, true, false, true, false, false] (codeOf Tryd.f40))) :=
  lift_ok (an := .leaf) (ss := L.b8_L1_ss) (os := L.b8_L1_os) (G := L.b8_L1_G) rfl (Nat.le_of_ble_eq_true rfl) (annOk_leaf _) (L.b8_L1_imp)
def L.b8_B (s1 : L.yb) (s2 : L.yb) (K : Bool → Prop) : Prop :=
  (bif ((s1.length : Int) != (s2.length : Int)) then K false else L.b8_L1 s1 s2 (s1.length : Int) 0 (K true) (fun r => K r))
structure L.b8 (s1 : L.yb) (s2 : L.yb) (K : Bool → Prop) : Prop where
  out : L.b8_B s1 s2 K
def L.b8_ss : List Sh := [.ro .str, .ro .str]
def L.b8_G (vs : List V) (K : V → List Ob → Prop) : Prop := L.b8 (gR .str (gA vs 0)) (gR .str (gA vs 1)) (fun r0 => K (.x (.bool r0)) [])
def L.b8_S : SemF := fun args K => argF L.b8_ss args fun a => L.b8_G a K
theorem L.b8_eq (s1 : L.yb) (s2 : L.yb) (K : V → List Ob → Prop) : run L.pg L.Γ_b8 L.Δ_b8 (.node .leaf (.node .leaf (.node (.node .leaf (.lift L.b8_L1_d 26 L.b8_L1_F)) .leaf))) .any Tryd.f40 [.ro .str s1, .ro .str s2] K = L.b8_B s1 s2 (fun r0 => K (.x (.bool r0)) []) := by
  kernel_rfl
theorem L.b8_imp (vs : List V) (K : V → List Ob → Prop) : Imp (L.b8_G vs K) (run L.pg L.Γ_b8 L.Δ_b8 (.node .leaf (.node .leaf (.node (.node .leaf (.lift L.b8_L1_d 26 L.b8_L1_F)) .leaf))) .any Tryd.f40 (mkL L.b8_ss 0 vs) K) :=
  Imp.of (Eq.trans (b := run L.pg L.Γ_b8 L.Δ_b8 (.node .leaf (.node .leaf (.node (.node .leaf (.lift L.b8_L1_d 26 L.b8_L1_F)) .leaf))) .any Tryd.f40 [.ro .str (gR .str (gA vs 0)), .ro .str (gR .str (gA vs 1))] K) (by kernel_rfl) (L.b8_eq (gR .str (gA vs 0)) (gR .str (gA vs 1)) K)) fun h => (L.b8.out h)
theorem L.b8_ok : SoundFn L.pg 40 L.b8_S :=
  fn_ok (sem := run L.pg L.Γ_b8 L.Δ_b8 (.node .leaf (.node .leaf (.node (.node .leaf (.lift L.b8_L1_d 26 L.b8_L1_F)) .leaf))) .any Tryd.f40) (ss := L.b8_ss) (G := L.b8_G) (run_ok L.Γ_b8_ok L.Δ_b8_ok Tryd.func40 (ann := (.node .leaf (.node .leaf (.node (.node .leaf (.lift L.b8_L1_d 26 L.b8_L1_F)) .leaf)))) ⟨(annOk_leaf _), ⟨(annOk_leaf _), ⟨⟨(annOk_leaf _), L.b8_L1_ok⟩, (annOk_leaf _)⟩⟩⟩) L.b8_imp
def L.Γ_e4 : Ctx := ctxC L.Γ_b8 40 L.b8_S
theorem L.Γ_e4_ok : SoundG L.pg L.Γ_e4 := ctxC_ok L.Γ_b8_ok L.b8_ok
def L.Δ_e4 : CtxO := L.Δ_b8
theorem L.Δ_e4_ok : SoundGO L.pg L.Δ_e4 := L.Δ_b8_ok
def L.e4_B (text : L.yb) (part : L.yb) (at_ : Int) (K : Bool → Prop) : Prop :=
  ((((bif (bif (decide (at_ ≥ 0)) then (decide (at_ ≤ (text.length : Int))) else false) then (decide ((part.length : Int) ≤ (i64 ((text.length : Int) - at_)))) else false) == true) = true → 0 ≤ at_ ∧ at_ ≤ (i64 (at_ + (part.length : Int))) ∧ (i64 (at_ + (part.length : Int))) ≤ text.length)) ∧ (bif (bif (bif (decide (at_ ≥ 0)) then (decide (at_ ≤ (text.length : Int))) else false) then (decide ((part.length : Int) ≤ (i64 ((text.length : Int) - at_)))) else false) then L.b8 ((text.take (i64 (at_ + (part.length : Int))).toNat).drop at_.toNat) part (fun r => K (bif true then r else false)) else K false)
structure L.e4 (text : L.yb) (part : L.yb) (at_ : Int) (K : Bool → Prop) : Prop where
  out : L.e4_B text part at_ K
def L.e4_ss : List Sh := [.ro .str, .ro .str, .int .i64]
def L.e4_G (vs : List V) (K : V → List Ob → Prop) : Prop := L.e4 (gR .str (gA vs 0)) (gR .str (gA vs 1)) (gI (gA vs 2)) (fun r0 => K (.x (.bool r0)) [])
def L.e4_S : SemF := fun args K => argF L.e4_ss args fun a => L.e4_G a K
theorem L.e4_eq (text : L.yb) (part : L.yb) (at_ : Int) (K : V → List Ob → Prop) : run L.pg L.Γ_e4 L.Δ_e4 .leaf .any Tryd.f18 [.ro .str text, .ro .str part, .xi at_] K = L.e4_B text part at_ (fun r0 => K (.x (.bool r0)) []) := by
  kernel_rfl
theorem L.e4_imp (vs : List V) (K : V → List Ob → Prop) : Imp (L.e4_G vs K) (run L.pg L.Γ_e4 L.Δ_e4 .leaf .any Tryd.f18 (mkL L.e4_ss 0 vs) K) :=
  Imp.of (Eq.trans (b := run L.pg L.Γ_e4 L.Δ_e4 .leaf .any Tryd.f18 [.ro .str (gR .str (gA vs 0)), .ro .str (gR .str (gA vs 1)), .xi (gI (gA vs 2))] K) (by kernel_rfl) (L.e4_eq (gR .str (gA vs 0)) (gR .str (gA vs 1)) (gI (gA vs 2)) K)) fun h => (L.e4.out h)
theorem L.e4_ok : SoundFn L.pg 18 L.e4_S :=
  fn_ok (sem := run L.pg L.Γ_e4 L.Δ_e4 .leaf .any Tryd.f18) (ss := L.e4_ss) (G := L.e4_G) (run_ok L.Γ_e4_ok L.Δ_e4_ok Tryd.func18 (ann := .leaf) (annOk_leaf _)) L.e4_imp
def L.Γ_a7 : Ctx := ctxC L.Γ_e4 18 L.e4_S
theorem L.Γ_a7_ok : SoundG L.pg L.Γ_a7 := ctxC_ok L.Γ_e4_ok L.e4_ok
def L.Δ_a7 : CtxO := L.Δ_e4
theorem L.Δ_a7_ok : SoundGO L.pg L.Δ_a7 := L.Δ_e4_ok
def L.a7_J1_B (h : Int) (h1 : L.yb) (h2 : L.yb) (Kn : Int → Prop) : Prop :=
  L.d7 h h1 h2 (fun r => Kn r)
structure L.a7_J1 (h : Int) (h1 : L.yb) (h2 : L.yb) (Kn : Int → Prop) : Prop where
  out : L.a7_J1_B h h1 h2 Kn
def L.a7_J1_d : CutD := { base := 4, vecs := [], flds := [], keep := [1, 3, 9, 11, 12, 13, 14], out := [1, 2, 3, 9, 12, 13, 14], rets := [8], ovecs := [], oflds := [], rv := [], rbase := 0 }
def L.a7_J1_ss : List Sh := [.ro .str, .int .i64, .vec 3, .cl 1 0, .ro L.T7, .int .i64, .int .i64]
def L.a7_J1_os : List OSh := [.dead, .cells [.int .i64, .ro .str, .ro .str], .dead, .vec .str true]
def L.a7_J1_G (vs : List V) (st : List Ob) (K : Ex → St) : Prop := L.a7_J1 (cI st 1 0) (gR .str ((oC (gD st 1)).getD 1 .any)) (gR .str ((oC (gD st 1)).getD 2 .any)) (fun q0_ => K .normal (bld [1, 2, 3, 9, 12, 13, 14] [.ro .str (gR .str (gA vs 0)), .xi q0_, .xi (gI (gA vs 1)), .vec 3, .ro L.T7 (gR L.T7 (gA vs 4)), .xi (gI (gA vs 5)), .xi (gI (gA vs 6))] 0 37) [.dead, .cells [.xi (cI st 1 0), .ro .str (gR .str ((oC (gD st 1)).getD 1 .any)), .ro .str (gR .str ((oC (gD st 1)).getD 2 .any))], .dead, .vec .str 0 (oX .str (gD st 3))])
def L.a7_J1_F (vs : List V) (st : List Ob) (K : Ex → St) : Prop := fitF L.a7_J1_ss L.a7_J1_os vs st (L.a7_J1_G vs st K)
theorem L.a7_J1_eq (text1 : L.yb) (high1 : Int) (v12 : L.T8) (v13 : Int) (v14 : Int) (h : Int) (h1 : L.yb) (h2 : L.yb) (out : L.yb) (K : Ex → St) : L.a7_J1_B h h1 h2 (fun q0_ => K .normal (bld [1, 2, 3, 9, 12, 13, 14] [.ro .str text1, .xi q0_, .xi high1, .vec 3, .ro L.T7 v12, .xi v13, .xi v14] 0 37) [.dead, .cells [.xi h, .ro .str h1, .ro .str h2], .dead, .vec .str 0 out]) = exec L.pg (CC L.pg L.Γ_a7 L.Δ_a7) (drawD L.pg L.Γ_a7 L.Δ_a7) .leaf (sub [true, true, false, true, false, false, true, true, false, false, true, true] (codeOf Tryd.f19)) (bld L.a7_J1_d.keep [.ro .str text1, .xi high1, .vec 3, .cl 1 0, .ro L.T7 v12, .xi v13, .xi v14] 0 37) [.dead, .cells [.xi h, .ro .str h1, .ro .str h2], .dead, .vec .str 0 out] (cutK L.a7_J1_d K) := by
  kernel_rfl
theorem L.a7_J1_ok (vs : List V) (st : List Ob) (K : Ex → St) : Imp (L.a7_J1_G vs st K) (exec L.pg (CC L.pg L.Γ_a7 L.Δ_a7) (drawD L.pg L.Γ_a7 L.Δ_a7) .leaf (sub [true, true, false, true, false, false, true, true, false, false, true, true] (codeOf Tryd.f19)) (bld L.a7_J1_d.keep (mkL L.a7_J1_ss 0 vs) 0 37) (mkOs L.a7_J1_os 0 st) (cutK L.a7_J1_d K)) :=
  Imp.of (Eq.trans (b := exec L.pg (CC L.pg L.Γ_a7 L.Δ_a7) (drawD L.pg L.Γ_a7 L.Δ_a7) .leaf (sub [true, true, false, true, false, false, true, true, false, false, true, true] (codeOf Tryd.f19)) (bld L.a7_J1_d.keep [.ro .str (gR .str (gA vs 0)), .xi (gI (gA vs 1)), .vec 3, .cl 1 0, .ro L.T7 (gR L.T7 (gA vs 4)), .xi (gI (gA vs 5)), .xi (gI (gA vs 6))] 0 37) [.dead, .cells [.xi (cI st 1 0), .ro .str (gR .str ((oC (gD st 1)).getD 1 .any)), .ro .str (gR .str ((oC (gD st 1)).getD 2 .any))], .dead, .vec .str 0 (oX .str (gD st 3))] (cutK L.a7_J1_d K)) (by kernel_rfl) (Eq.symm (L.a7_J1_eq (gR .str (gA vs 0)) (gI (gA vs 1)) (gR L.T7 (gA vs 4)) (gI (gA vs 5)) (gI (gA vs 6)) (cI st 1 0) (gR .str ((oC (gD st 1)).getD 1 .any)) (gR .str ((oC (gD st 1)).getD 2 .any)) (oX .str (gD st 3)) K))) fun h => (L.a7_J1.out h)
def L.a7_L1_b (text1 : L.yb) (v12 : L.T8) (v13 : Int) (low1 : Int) (v14 : Int) (out : L.yb) (self : Int → Int → L.yb → Prop) (Kx0 : Int → L.yb → Prop) : Prop :=
  (bif (decide (v14 < v13)) then (inB v14 v12.length) ∧ (0 ≤ low1 ∧ low1 ≤ ((v12.getD v14.toNat (0, ([], []))).1) ∧ ((v12.getD v14.toNat (0, ([], []))).1) ≤ text1.length) ∧ ((fits (out.length + ((text1.take ((v12.getD v14.toNat (0, ([], []))).1).toNat).drop low1.toNat).length)) ∧ (fits ((out ++ ((text1.take ((v12.getD v14.toNat (0, ([], []))).1).toNat).drop low1.toNat)).length + ((v12.getD v14.toNat (0, ([], []))).2.2).length)) ∧ L.a7_J1 ((v12.getD v14.toNat (0, ([], []))).1) ((v12.getD v14.toNat (0, ([], []))).2.1) ((v12.getD v14.toNat (0, ([], []))).2.2) (fun low2 => self low2 (i64 (v14 + 1)) ((out ++ ((text1.take ((v12.getD v14.toNat (0, ([], []))).1).toNat).drop low1.toNat)) ++ (v12.getD v14.toNat (0, ([], []))).2.2))) ∧ (fits (out.length + ((text1.take ((v12.getD v14.toNat (0, ([], []))).1).toNat).drop low1.toNat).length)) ∧ (fits ((out ++ ((text1.take ((v12.getD v14.toNat (0, ([], []))).1).toNat).drop low1.toNat)).length + ((v12.getD v14.toNat (0, ([], []))).2.2).length)) ∧ L.a7_J1 ((v12.getD v14.toNat (0, ([], []))).1) ((v12.getD v14.toNat (0, ([], []))).2.1) ((v12.getD v14.toNat (0, ([], []))).2.2) (fun low2 => self low2 (i64 (v14 + 1)) ((out ++ ((text1.take ((v12.getD v14.toNat (0, ([], []))).1).toNat).drop low1.toNat)) ++ (v12.getD v14.toNat (0, ([], []))).2.2)) else Kx0 low1 out)
def L.a7_L1_R (text1 : L.yb) (v12 : L.T8) (v13 : Int) : Nat → Int → Int → L.yb → (Int → L.yb → Prop) → Prop
  | 0, _, _, _, _ => False
  | fu + 1, low1, v14, out, Kx0 => L.a7_L1_b text1 v12 v13 low1 v14 out (fun low1 v14 out => L.a7_L1_R text1 v12 v13 fu low1 v14 out Kx0) Kx0
structure L.a7_L1 (text1 : L.yb) (v12 : L.T8) (v13 : Int) (low1 : Int) (v14 : Int) (out : L.yb) (Kx0 : Int → L.yb → Prop) : Prop where
  out : ∃ fu, L.a7_L1_R text1 v12 v13 fu low1 v14 out Kx0
def L.a7_L1_d : LoopD := { base := 0, vecs := [(9, .sl .str)], flds := [], keep := [1, 2, 3, 9, 12, 13, 14], out := [1, 2, 3, 9], rets := [8], rv := [], rbase := 0 }
def L.a7_L1_ss : List Sh := [.ro .str, .int .i64, .int .i64, .vec 0, .ro L.T7, .int .i64, .int .i64]
def L.a7_L1_os : List OSh := [.vec .str true]
def L.a7_L1_G (vs : List V) (st : List Ob) (K : Ex → St) : Prop := L.a7_L1 (gR .str (gA vs 0)) (gR L.T7 (gA vs 4)) (gI (gA vs 5)) (gI (gA vs 1)) (gI (gA vs 6)) (oX .str (gD st 0)) (fun q0_ q1_ => K (.exit 0) (bld [1, 2, 3, 9] [.ro .str (gR .str (gA vs 0)), .xi q0_, .xi (gI (gA vs 2)), .vec 0] 0 37) [.vec .str 0 q1_])
def L.a7_L1_F (vs : List V) (st : List Ob) (K : Ex → St) : Prop := fitF L.a7_L1_ss L.a7_L1_os vs st (L.a7_L1_G vs st K)
theorem L.a7_L1_eq (text1 : L.yb) (high1 : Int) (v12 : L.T8) (v13 : Int) (K : Ex → St) : ∀ (fu : Nat) (low1 : Int) (v14 : Int) (out : L.yb), L.a7_L1_R text1 v12 v13 fu low1 v14 out (fun q0_ q1_ => K (.exit 0) (bld [1, 2, 3, 9] [.ro .str text1, .xi q0_, .xi high1, .vec 0] 0 37) [.vec .str 0 q1_]) = iterL (stepL (exec L.pg (CC L.pg L.Γ_a7 L.Δ_a7) (drawD L.pg L.Γ_a7 L.Δ_a7) (.node .leaf (.node .leaf (.node (.node .leaf (.cut .leaf L.a7_J1_d 37 L.a7_J1_F)) .leaf))) (sub [true, true, false, true, false, false] (codeOf Tryd.f19))) 0 L.a7_L1_d K) fu (bld L.a7_L1_d.keep [.ro .str text1, .xi low1, .xi high1, .vec 0, .ro L.T7 v12, .xi v13, .xi v14] 0 37) [.vec .str 0 out] := by
  intro fu
  induction fu with
  | zero => intros; rfl
  | succ fu ih =>
    intro low1 v14 out
    have e : (fun low1 v14 out => L.a7_L1_R text1 v12 v13 fu low1 v14 out (fun q0_ q1_ => K (.exit 0) (bld [1, 2, 3, 9] [.ro .str text1, .xi q0_, .xi high1, .vec 0] 0 37) [.vec .str 0 q1_])) = fun low1 v14 out => iterL (stepL (exec L.pg (CC L.pg L.Γ_a7 L.Δ_a7) (drawD L.pg L.Γ_a7 L.Δ_a7) (.node .leaf (.node .leaf (.node (.node .leaf (.cut .leaf L.a7_J1_d 37 L.a7_J1_F)) .leaf))) (sub [true, true, false, true, false, false] (codeOf Tryd.f19))) 0 L.a7_L1_d K) fu (bld L.a7_L1_d.keep [.ro .str text1, .xi low1, .xi high1, .vec 0, .ro L.T7 v12, .xi v13, .xi v14] 0 37) [.vec .str 0 out] := by
      funext low1 v14 out; exact ih low1 v14 out
    show L.a7_L1_b text1 v12 v13 low1 v14 out (fun low1 v14 out => L.a7_L1_R text1 v12 v13 fu low1 v14 out (fun q0_ q1_ => K (.exit 0) (bld [1, 2, 3, 9] [.ro .str text1, .xi q0_, .xi high1, .vec 0] 0 37) [.vec .str 0 q1_])) (fun q0_ q1_ => K (.exit 0) (bld [1, 2, 3, 9] [.ro .str text1, .xi q0_, .xi high1, .vec 0] 0 37) [.vec .str 0 q1_]) = _
    rw [e]
    kernel_rfl
theorem L.a7_L1_imp (vs : List V) (st : List Ob) (K : Ex → St) (h : L.a7_L1_G vs st K) : ∃ fu, iterL (stepL (exec L.pg (CC L.pg L.Γ_a7 L.Δ_a7) (drawD L.pg L.Γ_a7 L.Δ_a7) (.node .leaf (.node .leaf (.node (.node .leaf (.cut .leaf L.a7_J1_d 37 L.a7_J1_F)) .leaf))) (sub [true, true, false, true, false, false] (codeOf Tryd.f19))) 0 L.a7_L1_d K) fu (bld L.a7_L1_d.keep (mkL L.a7_L1_ss 0 vs) 0 37) (mkOs L.a7_L1_os 0 st) :=
  exMap (fun fu h => @Eq.mp _ _ (Eq.trans (L.a7_L1_eq (gR .str (gA vs 0)) (gI (gA vs 2)) (gR L.T7 (gA vs 4)) (gI (gA vs 5)) K fu (gI (gA vs 1)) (gI (gA vs 6)) (oX .str (gD st 0))) (by kernel_rfl)) h) (L.a7_L1.out h)
theorem L.a7_L1_ok : AnnOk L.pg (CC L.pg L.Γ_a7 L.Δ_a7) (drawD L.pg L.Γ_a7 L.Δ_a7) 0 (.lift L.a7_L1_d 37 L.a7_L1_F) (.loop (sub [true, true, false, true, false, false] (codeOf Tryd.f19))) :=
  lift_ok (an := (.node .leaf (.node .leaf (.node (.node .leaf (.cut .leaf L.a7_J1_d 37 L.a7_J1_F)) .leaf)))) (ss := L.a7_L1_ss) (os := L.a7_L1_os) (G := L.a7_L1_G) rfl (Nat.le_of_ble_eq_true rfl) ⟨(annOk_leaf _), ⟨(annOk_leaf _), ⟨⟨(annOk_leaf _), (cut_ok (ay := .leaf) (ss := L.a7_J1_ss) (os := L.a7_J1_os) (G := L.a7_J1_G) rfl (annOk_leaf _) (Nat.le_of_ble_eq_true rfl) (Nat.le_of_ble_eq_true rfl) (annOk_leaf _) L.a7_J1_ok)⟩, (annOk_leaf _)⟩⟩⟩ (L.a7_L1_imp)
def L.a7_B (hunks : L.T8) (text : L.yb) (low : Int) (high : Int) (K : L.yb → Prop) : Prop :=
  L.a7_L1 text hunks (hunks.length : Int) low 0 ([] : List ByteArray) (fun low1 out => (0 ≤ low1 ∧ low1 ≤ high ∧ high ≤ text.length) ∧ (fits (out.length + ((text.take high.toNat).drop low1.toNat).length)) ∧ K (out ++ ((text.take high.toNat).drop low1.toNat)))
structure L.a7 (hunks : L.T8) (text : L.yb) (low : Int) (high : Int) (K : L.yb → Prop) : Prop where
  out : L.a7_B hunks text low high K
def L.a7_ss : List Sh := [.ro L.T7, .ro .str, .int .i64, .int .i64]
def L.a7_G (vs : List V) (K : V → List Ob → Prop) : Prop := L.a7 (gR L.T7 (gA vs 0)) (gR .str (gA vs 1)) (gI (gA vs 2)) (gI (gA vs 3)) (fun r0 => K (.vec 0) [.vec .str 0 r0])
def L.a7_S : SemF := fun args K => argF L.a7_ss args fun a => L.a7_G a K
theorem L.a7_eq (hunks : L.T8) (text : L.yb) (low : Int) (high : Int) (K : V → List Ob → Prop) : run L.pg L.Γ_a7 L.Δ_a7 (.node .leaf (.node .leaf (.node (.node .leaf (.lift L.a7_L1_d 37 L.a7_L1_F)) .leaf))) (.sl .str) Tryd.f19 [.ro L.T7 hunks, .ro .str text, .xi low, .xi high] K = L.a7_B hunks text low high (fun r0 => K (.vec 0) [.vec .str 0 r0]) := by
  kernel_rfl
theorem L.a7_imp (vs : List V) (K : V → List Ob → Prop) : Imp (L.a7_G vs K) (run L.pg L.Γ_a7 L.Δ_a7 (.node .leaf (.node .leaf (.node (.node .leaf (.lift L.a7_L1_d 37 L.a7_L1_F)) .leaf))) (.sl .str) Tryd.f19 (mkL L.a7_ss 0 vs) K) :=
  Imp.of (Eq.trans (b := run L.pg L.Γ_a7 L.Δ_a7 (.node .leaf (.node .leaf (.node (.node .leaf (.lift L.a7_L1_d 37 L.a7_L1_F)) .leaf))) (.sl .str) Tryd.f19 [.ro L.T7 (gR L.T7 (gA vs 0)), .ro .str (gR .str (gA vs 1)), .xi (gI (gA vs 2)), .xi (gI (gA vs 3))] K) (by kernel_rfl) (L.a7_eq (gR L.T7 (gA vs 0)) (gR .str (gA vs 1)) (gI (gA vs 2)) (gI (gA vs 3)) K)) fun h => (L.a7.out h)
theorem L.a7_ok : SoundFn L.pg 19 L.a7_S :=
  fn_ok (sem := run L.pg L.Γ_a7 L.Δ_a7 (.node .leaf (.node .leaf (.node (.node .leaf (.lift L.a7_L1_d 37 L.a7_L1_F)) .leaf))) (.sl .str) Tryd.f19) (ss := L.a7_ss) (G := L.a7_G) (run_ok L.Γ_a7_ok L.Δ_a7_ok Tryd.func19 (ann := (.node .leaf (.node .leaf (.node (.node .leaf (.lift L.a7_L1_d 37 L.a7_L1_F)) .leaf)))) ⟨(annOk_leaf _), ⟨(annOk_leaf _), ⟨⟨(annOk_leaf _), L.a7_L1_ok⟩, (annOk_leaf _)⟩⟩⟩) L.a7_imp
end Go.Proofs.YtkpplfghhciacaaDoor

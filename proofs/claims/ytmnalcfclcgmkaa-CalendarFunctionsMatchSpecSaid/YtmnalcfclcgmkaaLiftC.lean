/-
  The Go functions of this part as plain functions in continuation style, printed by a program of mine, each with the proof that the Go function does what it says. Conditions: none.
-/
import Derived.Test.YtmnalcfclcgmkaaEngW
import Derived.Test.YtmnalcfclcgmkaaProg
set_option linter.unusedVariables false
set_option maxRecDepth 100000
namespace Go.Proofs.Ytmnalcfclcgmkaa
open Eng
/-- changeforge/calendar.checkWindow -/
def C.Γ_calendar_checkWindow : Ctx := ctx0
theorem C.Γ_calendar_checkWindow_ok : SoundG Try.prog C.Γ_calendar_checkWindow := ctx0_ok
def C.Δ_calendar_checkWindow : CtxO := ctxO0
theorem C.Δ_calendar_checkWindow_ok : SoundGO Try.prog C.Δ_calendar_checkWindow := ctxO0_ok
def C.calendar_checkWindow_L1_b (v32 : (List (Int × (Int × Int)))) (v33 : Int) (w : Int) (w1 : Int) (v34 : Int) (self : Int → Prop) (Kx0 : Prop) (Kr : Int → Prop) : Prop :=
  (bif (decide (v34 < v33)) then (inB v34 v32.length) ∧ (bif (bif (decide (w < ((v32.getD v34.toNat (0, (0, 0))).1))) then true else (bif (w == ((v32.getD v34.toNat (0, (0, 0))).1)) then (decide (w1 < ((v32.getD v34.toNat (0, (0, 0))).2.2))) else false)) then Kr 5 else self (i64 (v34 + 1))) else Kx0)
def C.calendar_checkWindow_L1_R (v32 : (List (Int × (Int × Int)))) (v33 : Int) (w : Int) (w1 : Int) : Nat → Int → (Prop) → (Int → Prop) → Prop
  | 0, _, _, _ => False
  | fu + 1, v34, Kx0, Kr => C.calendar_checkWindow_L1_b v32 v33 w w1 v34 (fun v34 => C.calendar_checkWindow_L1_R v32 v33 w w1 fu v34 Kx0 Kr) Kx0 Kr
structure C.calendar_checkWindow_L1 (v32 : (List (Int × (Int × Int)))) (v33 : Int) (w : Int) (w1 : Int) (v34 : Int) (Kx0 : Prop) (Kr : Int → Prop) : Prop where
  out : ∃ fu, C.calendar_checkWindow_L1_R v32 v33 w w1 fu v34 Kx0 Kr
def C.calendar_checkWindow_L1_d : LoopD := { base := 1, vecs := [], flds := [], keep := [2, 32, 33, 34], out := [], rets := [4], rv := [], rbase := 0 }
def C.calendar_checkWindow_L1_ss : List Sh := [.cl 0 0, .ro (.pair (.int .i64) (.pair (.int .i64) (.int .i64))), .int .i64, .int .i64]
def C.calendar_checkWindow_L1_os : List OSh := [.cells [.int .i64, .int .i64, .int .i64]]
def C.calendar_checkWindow_L1_G (vs : List V) (st : List Ob) (K : Ex → St) : Prop := C.calendar_checkWindow_L1 (gR (.pair (.int .i64) (.pair (.int .i64) (.int .i64))) (vs.getD 1 .any)) (gI (vs.getD 2 .any)) (gI ((oC (st.getD 0 .dead)).getD 0 .any)) (gI ((oC (st.getD 0 .dead)).getD 1 .any)) (gI (vs.getD 3 .any)) (K (.exit 0) (bld [] [] 0 58) [.cells [.x (.int .i64 (gI ((oC (st.getD 0 .dead)).getD 0 .any))), .x (.int .i64 (gI ((oC (st.getD 0 .dead)).getD 1 .any))), .x (.int .i64 (gI ((oC (st.getD 0 .dead)).getD 2 .any)))]]) (fun q0_ => K .ret (bld [4] [.x (.int .i64 q0_)] 0 58) [])
def C.calendar_checkWindow_L1_F (vs : List V) (st : List Ob) (K : Ex → St) : Prop := fitF C.calendar_checkWindow_L1_ss C.calendar_checkWindow_L1_os vs st (C.calendar_checkWindow_L1_G vs st K)
theorem C.calendar_checkWindow_L1_eq (v32 : (List (Int × (Int × Int)))) (v33 : Int) (w : Int) (w1 : Int) (w2 : Int) (K : Ex → St) : ∀ (fu : Nat) (v34 : Int), C.calendar_checkWindow_L1_R v32 v33 w w1 fu v34 (K (.exit 0) (bld [] [] 0 58) [.cells [.x (.int .i64 w), .x (.int .i64 w1), .x (.int .i64 w2)]]) (fun q0_ => K .ret (bld [4] [.x (.int .i64 q0_)] 0 58) []) = iterL (stepL (exec Try.prog (CC Try.prog C.Γ_calendar_checkWindow C.Δ_calendar_checkWindow) (drawD Try.prog C.Γ_calendar_checkWindow C.Δ_calendar_checkWindow) .leaf (sub [true, true, false, true, false, false] (codeOf Try.f22))) 1 C.calendar_checkWindow_L1_d K) fu (bld C.calendar_checkWindow_L1_d.keep [.cl 0 0, .ro (.pair (.int .i64) (.pair (.int .i64) (.int .i64))) v32, .x (.int .i64 v33), .x (.int .i64 v34)] 0 58) [.cells [.x (.int .i64 w), .x (.int .i64 w1), .x (.int .i64 w2)]] := by
  intro fu
  induction fu with
  | zero => intros; rfl
  | succ fu ih =>
    intro v34
    have e : (fun v34 => C.calendar_checkWindow_L1_R v32 v33 w w1 fu v34 (K (.exit 0) (bld [] [] 0 58) [.cells [.x (.int .i64 w), .x (.int .i64 w1), .x (.int .i64 w2)]]) (fun q0_ => K .ret (bld [4] [.x (.int .i64 q0_)] 0 58) [])) = fun v34 => iterL (stepL (exec Try.prog (CC Try.prog C.Γ_calendar_checkWindow C.Δ_calendar_checkWindow) (drawD Try.prog C.Γ_calendar_checkWindow C.Δ_calendar_checkWindow) .leaf (sub [true, true, false, true, false, false] (codeOf Try.f22))) 1 C.calendar_checkWindow_L1_d K) fu (bld C.calendar_checkWindow_L1_d.keep [.cl 0 0, .ro (.pair (.int .i64) (.pair (.int .i64) (.int .i64))) v32, .x (.int .i64 v33), .x (.int .i64 v34)] 0 58) [.cells [.x (.int .i64 w), .x (.int .i64 w1), .x (.int .i64 w2)]] := by
      funext v34; exact ih v34
    show C.calendar_checkWindow_L1_b v32 v33 w w1 v34 (fun v34 => C.calendar_checkWindow_L1_R v32 v33 w w1 fu v34 (K (.exit 0) (bld [] [] 0 58) [.cells [.x (.int .i64 w), .x (.int .i64 w1), .x (.int .i64 w2)]]) (fun q0_ => K .ret (bld [4] [.x (.int .i64 q0_)] 0 58) [])) (K (.exit 0) (bld [] [] 0 58) [.cells [.x (.int .i64 w), .x (.int .i64 w1), .x (.int .i64 w2)]]) (fun q0_ => K .ret (bld [4] [.x (.int .i64 q0_)] 0 58) []) = _
    rw [e]
    kernel_rfl
theorem C.calendar_checkWindow_L1_imp (vs : List V) (st : List Ob) (K : Ex → St) (h : C.calendar_checkWindow_L1_G vs st K) : ∃ fu, iterL (stepL (exec Try.prog (CC Try.prog C.Γ_calendar_checkWindow C.Δ_calendar_checkWindow) (drawD Try.prog C.Γ_calendar_checkWindow C.Δ_calendar_checkWindow) .leaf (sub [true, true, false, true, false, false] (codeOf Try.f22))) 1 C.calendar_checkWindow_L1_d K) fu (bld C.calendar_checkWindow_L1_d.keep (mkL C.calendar_checkWindow_L1_ss 0 vs) 0 58) (mkOs C.calendar_checkWindow_L1_os 0 st) :=
  exMap (fun fu h => @Eq.mp _ _ (Eq.trans (C.calendar_checkWindow_L1_eq (gR (.pair (.int .i64) (.pair (.int .i64) (.int .i64))) (vs.getD 1 .any)) (gI (vs.getD 2 .any)) (gI ((oC (st.getD 0 .dead)).getD 0 .any)) (gI ((oC (st.getD 0 .dead)).getD 1 .any)) (gI ((oC (st.getD 0 .dead)).getD 2 .any)) K fu (gI (vs.getD 3 .any))) (by kernel_rfl)) h) (C.calendar_checkWindow_L1.out h)
theorem C.calendar_checkWindow_L1_ok : AnnOk Try.prog (CC Try.prog C.Γ_calendar_checkWindow C.Δ_calendar_checkWindow) (drawD Try.prog C.Γ_calendar_checkWindow C.Δ_calendar_checkWindow) 0 (.lift C.calendar_checkWindow_L1_d 58 C.calendar_checkWindow_L1_F) (.loop (sub [true, true, false, true, false, false] (codeOf Try.f22))) :=
  lift_ok (an := .leaf) (ss := C.calendar_checkWindow_L1_ss) (os := C.calendar_checkWindow_L1_os) (G := C.calendar_checkWindow_L1_G) rfl (Nat.le_of_ble_eq_true rfl) (annOk_leaf _) (C.calendar_checkWindow_L1_imp)
def C.calendar_checkWindow_B (w_Day : Int) (w_From : Int) (w_To : Int) (before : (List (Int × (Int × Int)))) (K : Int → Prop) : Prop :=
  (bif (bif (bif (bif (bif (decide (w_Day < 0)) then true else (decide (w_Day ≥ 7))) then true else (decide (w_From < 0))) then true else (decide (w_To > 1440))) then true else (decide (w_From ≥ w_To))) then K 3 else C.calendar_checkWindow_L1 before (before.length : Int) w_Day w_From 0 (K 0) (fun r => K r))
structure C.calendar_checkWindow (w_Day : Int) (w_From : Int) (w_To : Int) (before : (List (Int × (Int × Int)))) (K : Int → Prop) : Prop where
  out : C.calendar_checkWindow_B w_Day w_From w_To before K
def C.calendar_checkWindow_ss : List Sh := [.agg [.int .i64, .int .i64, .int .i64], .ro (.pair (.int .i64) (.pair (.int .i64) (.int .i64)))]
def C.calendar_checkWindow_G (vs : List V) (K : V → List Ob → Prop) : Prop := C.calendar_checkWindow (gI ((gC (vs.getD 0 .any)).getD 0 .any)) (gI ((gC (vs.getD 0 .any)).getD 1 .any)) (gI ((gC (vs.getD 0 .any)).getD 2 .any)) (gR (.pair (.int .i64) (.pair (.int .i64) (.int .i64))) (vs.getD 1 .any)) (fun r0 => K (.x (.int .i64 r0)) [])
def C.calendar_checkWindow_S : SemF := fun args K => argF C.calendar_checkWindow_ss args fun a => C.calendar_checkWindow_G a K
theorem C.calendar_checkWindow_eq (w_Day : Int) (w_From : Int) (w_To : Int) (before : (List (Int × (Int × Int)))) (K : V → List Ob → Prop) : run Try.prog C.Γ_calendar_checkWindow C.Δ_calendar_checkWindow (.node .leaf (.node .leaf (.node (.node .leaf (.lift C.calendar_checkWindow_L1_d 58 C.calendar_checkWindow_L1_F)) .leaf))) .any Try.f22 [.agg [.x (.int .i64 w_Day), .x (.int .i64 w_From), .x (.int .i64 w_To)], .ro (.pair (.int .i64) (.pair (.int .i64) (.int .i64))) before] K = C.calendar_checkWindow_B w_Day w_From w_To before (fun r0 => K (.x (.int .i64 r0)) []) := by
  kernel_rfl
theorem C.calendar_checkWindow_imp (vs : List V) (K : V → List Ob → Prop) : Imp (C.calendar_checkWindow_G vs K) (run Try.prog C.Γ_calendar_checkWindow C.Δ_calendar_checkWindow (.node .leaf (.node .leaf (.node (.node .leaf (.lift C.calendar_checkWindow_L1_d 58 C.calendar_checkWindow_L1_F)) .leaf))) .any Try.f22 (mkL C.calendar_checkWindow_ss 0 vs) K) :=
  Imp.of (Eq.trans (b := run Try.prog C.Γ_calendar_checkWindow C.Δ_calendar_checkWindow (.node .leaf (.node .leaf (.node (.node .leaf (.lift C.calendar_checkWindow_L1_d 58 C.calendar_checkWindow_L1_F)) .leaf))) .any Try.f22 [.agg [.x (.int .i64 (gI ((gC (vs.getD 0 .any)).getD 0 .any))), .x (.int .i64 (gI ((gC (vs.getD 0 .any)).getD 1 .any))), .x (.int .i64 (gI ((gC (vs.getD 0 .any)).getD 2 .any)))], .ro (.pair (.int .i64) (.pair (.int .i64) (.int .i64))) (gR (.pair (.int .i64) (.pair (.int .i64) (.int .i64))) (vs.getD 1 .any))] K) (by kernel_rfl) (C.calendar_checkWindow_eq (gI ((gC (vs.getD 0 .any)).getD 0 .any)) (gI ((gC (vs.getD 0 .any)).getD 1 .any)) (gI ((gC (vs.getD 0 .any)).getD 2 .any)) (gR (.pair (.int .i64) (.pair (.int .i64) (.int .i64))) (vs.getD 1 .any)) K)) fun h => (C.calendar_checkWindow.out h)
theorem C.calendar_checkWindow_ok : SoundFn Try.prog 22 C.calendar_checkWindow_S :=
  fn_ok (sem := run Try.prog C.Γ_calendar_checkWindow C.Δ_calendar_checkWindow (.node .leaf (.node .leaf (.node (.node .leaf (.lift C.calendar_checkWindow_L1_d 58 C.calendar_checkWindow_L1_F)) .leaf))) .any Try.f22) (ss := C.calendar_checkWindow_ss) (G := C.calendar_checkWindow_G) (run_ok C.Γ_calendar_checkWindow_ok C.Δ_calendar_checkWindow_ok Try.func22 (ann := (.node .leaf (.node .leaf (.node (.node .leaf (.lift C.calendar_checkWindow_L1_d 58 C.calendar_checkWindow_L1_F)) .leaf)))) ⟨(annOk_leaf _), ⟨(annOk_leaf _), ⟨⟨(annOk_leaf _), C.calendar_checkWindow_L1_ok⟩, (annOk_leaf _)⟩⟩⟩) C.calendar_checkWindow_imp
/-- changeforge/calendar.Validate -/
def C.Γ_calendar_Validate : Ctx := ctxC C.Γ_calendar_checkWindow 22 C.calendar_checkWindow_S
theorem C.Γ_calendar_Validate_ok : SoundG Try.prog C.Γ_calendar_Validate := ctxC_ok C.Γ_calendar_checkWindow_ok C.calendar_checkWindow_ok
def C.Δ_calendar_Validate : CtxO := C.Δ_calendar_checkWindow
theorem C.Δ_calendar_Validate_ok : SoundGO Try.prog C.Δ_calendar_Validate := C.Δ_calendar_checkWindow_ok
def C.calendar_Validate_L1_b (v19 : (List (Int × (Int × Int)))) (v20 : Int) (c : (List (Int × (Int × Int)))) (v21 : Int) (self : Int → Prop) (Kx0 : Prop) (Kr : Int → Int → Prop) : Prop :=
  (bif (decide (v21 < v20)) then (inB v21 v19.length) ∧ (0 ≤ (amx (i64 (v21 - 1)) 0) ∧ (amx (i64 (v21 - 1)) 0) ≤ v21 ∧ v21 ≤ c.length) ∧ C.calendar_checkWindow ((v19.getD v21.toNat (0, (0, 0))).1) ((v19.getD v21.toNat (0, (0, 0))).2.1) ((v19.getD v21.toNat (0, (0, 0))).2.2) ((c.take v21.toNat).drop (amx (i64 (v21 - 1)) 0).toNat) (fun r => (bif (r != 0) then Kr r v21 else self (i64 (v21 + 1)))) else Kx0)
def C.calendar_Validate_L1_R (v19 : (List (Int × (Int × Int)))) (v20 : Int) (c : (List (Int × (Int × Int)))) : Nat → Int → (Prop) → (Int → Int → Prop) → Prop
  | 0, _, _, _ => False
  | fu + 1, v21, Kx0, Kr => C.calendar_Validate_L1_b v19 v20 c v21 (fun v21 => C.calendar_Validate_L1_R v19 v20 c fu v21 Kx0 Kr) Kx0 Kr
structure C.calendar_Validate_L1 (v19 : (List (Int × (Int × Int)))) (v20 : Int) (c : (List (Int × (Int × Int)))) (v21 : Int) (Kx0 : Prop) (Kr : Int → Int → Prop) : Prop where
  out : ∃ fu, C.calendar_Validate_L1_R v19 v20 c fu v21 Kx0 Kr
def C.calendar_Validate_L1_d : LoopD := { base := 2, vecs := [], flds := [], keep := [1, 2, 19, 20, 21], out := [1, 2], rets := [2], rv := [], rbase := 0 }
def C.calendar_Validate_L1_ss : List Sh := [.cl 0 0, .cl 1 0, .ro (.pair (.int .i64) (.pair (.int .i64) (.int .i64))), .int .i64, .int .i64]
def C.calendar_Validate_L1_os : List OSh := [.cells [.ro (.pair (.int .i64) (.pair (.int .i64) (.int .i64))), .ro (.int .i64)], .cells [.int .i64, .int .i64]]
def C.calendar_Validate_L1_G (vs : List V) (st : List Ob) (K : Ex → St) : Prop := C.calendar_Validate_L1 (gR (.pair (.int .i64) (.pair (.int .i64) (.int .i64))) (vs.getD 2 .any)) (gI (vs.getD 3 .any)) (gR (.pair (.int .i64) (.pair (.int .i64) (.int .i64))) ((oC (st.getD 0 .dead)).getD 0 .any)) (gI (vs.getD 4 .any)) (K (.exit 0) (bld [1, 2] [.cl 0 0, .cl 1 0] 0 75) [.cells [.ro (.pair (.int .i64) (.pair (.int .i64) (.int .i64))) (gR (.pair (.int .i64) (.pair (.int .i64) (.int .i64))) ((oC (st.getD 0 .dead)).getD 0 .any)), .ro (.int .i64) (gR (.int .i64) ((oC (st.getD 0 .dead)).getD 1 .any))], .cells [.x (.int .i64 (gI ((oC (st.getD 1 .dead)).getD 0 .any))), .x (.int .i64 (gI ((oC (st.getD 1 .dead)).getD 1 .any)))]]) (fun q0_ q1_ => K .ret (bld [2] [.cl 0 0] 0 75) [.cells [.x (.int .i64 q0_), .x (.int .i64 q1_)]])
def C.calendar_Validate_L1_F (vs : List V) (st : List Ob) (K : Ex → St) : Prop := fitF C.calendar_Validate_L1_ss C.calendar_Validate_L1_os vs st (C.calendar_Validate_L1_G vs st K)
theorem C.calendar_Validate_L1_eq (v19 : (List (Int × (Int × Int)))) (v20 : Int) (c : (List (Int × (Int × Int)))) (c1 : (List Int)) (m1 : Int) (m11 : Int) (K : Ex → St) : ∀ (fu : Nat) (v21 : Int), C.calendar_Validate_L1_R v19 v20 c fu v21 (K (.exit 0) (bld [1, 2] [.cl 0 0, .cl 1 0] 0 75) [.cells [.ro (.pair (.int .i64) (.pair (.int .i64) (.int .i64))) c, .ro (.int .i64) c1], .cells [.x (.int .i64 m1), .x (.int .i64 m11)]]) (fun q0_ q1_ => K .ret (bld [2] [.cl 0 0] 0 75) [.cells [.x (.int .i64 q0_), .x (.int .i64 q1_)]]) = iterL (stepL (exec Try.prog (CC Try.prog C.Γ_calendar_Validate C.Δ_calendar_Validate) (drawD Try.prog C.Γ_calendar_Validate C.Δ_calendar_Validate) .leaf (sub [true, true, true, false, true, false, false] (codeOf Try.f14))) 2 C.calendar_Validate_L1_d K) fu (bld C.calendar_Validate_L1_d.keep [.cl 0 0, .cl 1 0, .ro (.pair (.int .i64) (.pair (.int .i64) (.int .i64))) v19, .x (.int .i64 v20), .x (.int .i64 v21)] 0 75) [.cells [.ro (.pair (.int .i64) (.pair (.int .i64) (.int .i64))) c, .ro (.int .i64) c1], .cells [.x (.int .i64 m1), .x (.int .i64 m11)]] := by
  intro fu
  induction fu with
  | zero => intros; rfl
  | succ fu ih =>
    intro v21
    have e : (fun v21 => C.calendar_Validate_L1_R v19 v20 c fu v21 (K (.exit 0) (bld [1, 2] [.cl 0 0, .cl 1 0] 0 75) [.cells [.ro (.pair (.int .i64) (.pair (.int .i64) (.int .i64))) c, .ro (.int .i64) c1], .cells [.x (.int .i64 m1), .x (.int .i64 m11)]]) (fun q0_ q1_ => K .ret (bld [2] [.cl 0 0] 0 75) [.cells [.x (.int .i64 q0_), .x (.int .i64 q1_)]])) = fun v21 => iterL (stepL (exec Try.prog (CC Try.prog C.Γ_calendar_Validate C.Δ_calendar_Validate) (drawD Try.prog C.Γ_calendar_Validate C.Δ_calendar_Validate) .leaf (sub [true, true, true, false, true, false, false] (codeOf Try.f14))) 2 C.calendar_Validate_L1_d K) fu (bld C.calendar_Validate_L1_d.keep [.cl 0 0, .cl 1 0, .ro (.pair (.int .i64) (.pair (.int .i64) (.int .i64))) v19, .x (.int .i64 v20), .x (.int .i64 v21)] 0 75) [.cells [.ro (.pair (.int .i64) (.pair (.int .i64) (.int .i64))) c, .ro (.int .i64) c1], .cells [.x (.int .i64 m1), .x (.int .i64 m11)]] := by
      funext v21; exact ih v21
    show C.calendar_Validate_L1_b v19 v20 c v21 (fun v21 => C.calendar_Validate_L1_R v19 v20 c fu v21 (K (.exit 0) (bld [1, 2] [.cl 0 0, .cl 1 0] 0 75) [.cells [.ro (.pair (.int .i64) (.pair (.int .i64) (.int .i64))) c, .ro (.int .i64) c1], .cells [.x (.int .i64 m1), .x (.int .i64 m11)]]) (fun q0_ q1_ => K .ret (bld [2] [.cl 0 0] 0 75) [.cells [.x (.int .i64 q0_), .x (.int .i64 q1_)]])) (K (.exit 0) (bld [1, 2] [.cl 0 0, .cl 1 0] 0 75) [.cells [.ro (.pair (.int .i64) (.pair (.int .i64) (.int .i64))) c, .ro (.int .i64) c1], .cells [.x (.int .i64 m1), .x (.int .i64 m11)]]) (fun q0_ q1_ => K .ret (bld [2] [.cl 0 0] 0 75) [.cells [.x (.int .i64 q0_), .x (.int .i64 q1_)]]) = _
    rw [e]
    kernel_rfl
theorem C.calendar_Validate_L1_imp (vs : List V) (st : List Ob) (K : Ex → St) (h : C.calendar_Validate_L1_G vs st K) : ∃ fu, iterL (stepL (exec Try.prog (CC Try.prog C.Γ_calendar_Validate C.Δ_calendar_Validate) (drawD Try.prog C.Γ_calendar_Validate C.Δ_calendar_Validate) .leaf (sub [true, true, true, false, true, false, false] (codeOf Try.f14))) 2 C.calendar_Validate_L1_d K) fu (bld C.calendar_Validate_L1_d.keep (mkL C.calendar_Validate_L1_ss 0 vs) 0 75) (mkOs C.calendar_Validate_L1_os 0 st) :=
  exMap (fun fu h => @Eq.mp _ _ (Eq.trans (C.calendar_Validate_L1_eq (gR (.pair (.int .i64) (.pair (.int .i64) (.int .i64))) (vs.getD 2 .any)) (gI (vs.getD 3 .any)) (gR (.pair (.int .i64) (.pair (.int .i64) (.int .i64))) ((oC (st.getD 0 .dead)).getD 0 .any)) (gR (.int .i64) ((oC (st.getD 0 .dead)).getD 1 .any)) (gI ((oC (st.getD 1 .dead)).getD 0 .any)) (gI ((oC (st.getD 1 .dead)).getD 1 .any)) K fu (gI (vs.getD 4 .any))) (by kernel_rfl)) h) (C.calendar_Validate_L1.out h)
theorem C.calendar_Validate_L1_ok : AnnOk Try.prog (CC Try.prog C.Γ_calendar_Validate C.Δ_calendar_Validate) (drawD Try.prog C.Γ_calendar_Validate C.Δ_calendar_Validate) 0 (.lift C.calendar_Validate_L1_d 75 C.calendar_Validate_L1_F) (.loop (sub [true, true, true, false, true, false, false] (codeOf Try.f14))) :=
  lift_ok (an := .leaf) (ss := C.calendar_Validate_L1_ss) (os := C.calendar_Validate_L1_os) (G := C.calendar_Validate_L1_G) rfl (Nat.le_of_ble_eq_true rfl) (annOk_leaf _) (C.calendar_Validate_L1_imp)
def C.calendar_Validate_L2_b (v42 : (List Int)) (v43 : Int) (c1 : (List Int)) (v44 : Int) (self : Int → Prop) (Kx2 : Prop) (Kr : Int → Int → Prop) : Prop :=
  (bif (decide (v44 < v43)) then (inB v44 v42.length) ∧ (bif (bif (decide ((v42.getD v44.toNat 0) < 0)) then true else (decide ((v42.getD v44.toNat 0) > 6944))) then Kr 3 (i64 ((-3 : Int) - v44)) else ((((decide (v44 > 0)) == true) = true → inB (i64 (v44 - 1)) c1.length)) ∧ (bif (bif (decide (v44 > 0)) then (decide ((v42.getD v44.toNat 0) ≤ (c1.getD ((i64 (v44 - 1)).toNat) 0))) else false) then Kr 5 (i64 ((-3 : Int) - v44)) else self (i64 (v44 + 1)))) else Kx2)
def C.calendar_Validate_L2_R (v42 : (List Int)) (v43 : Int) (c1 : (List Int)) : Nat → Int → (Prop) → (Int → Int → Prop) → Prop
  | 0, _, _, _ => False
  | fu + 1, v44, Kx2, Kr => C.calendar_Validate_L2_b v42 v43 c1 v44 (fun v44 => C.calendar_Validate_L2_R v42 v43 c1 fu v44 Kx2 Kr) Kx2 Kr
structure C.calendar_Validate_L2 (v42 : (List Int)) (v43 : Int) (c1 : (List Int)) (v44 : Int) (Kx2 : Prop) (Kr : Int → Int → Prop) : Prop where
  out : ∃ fu, C.calendar_Validate_L2_R v42 v43 c1 fu v44 Kx2 Kr
def C.calendar_Validate_L2_d : LoopD := { base := 2, vecs := [], flds := [], keep := [1, 2, 42, 43, 44], out := [2], rets := [2], rv := [], rbase := 0 }
def C.calendar_Validate_L2_ss : List Sh := [.cl 0 0, .cl 1 0, .ro (.int .i64), .int .i64, .int .i64]
def C.calendar_Validate_L2_os : List OSh := [.cells [.ro (.pair (.int .i64) (.pair (.int .i64) (.int .i64))), .ro (.int .i64)], .cells [.int .i64, .int .i64]]
def C.calendar_Validate_L2_G (vs : List V) (st : List Ob) (K : Ex → St) : Prop := C.calendar_Validate_L2 (gR (.int .i64) (vs.getD 2 .any)) (gI (vs.getD 3 .any)) (gR (.int .i64) ((oC (st.getD 0 .dead)).getD 1 .any)) (gI (vs.getD 4 .any)) (K (.exit 2) (bld [2] [.cl 1 0] 0 75) [.cells [.ro (.pair (.int .i64) (.pair (.int .i64) (.int .i64))) (gR (.pair (.int .i64) (.pair (.int .i64) (.int .i64))) ((oC (st.getD 0 .dead)).getD 0 .any)), .ro (.int .i64) (gR (.int .i64) ((oC (st.getD 0 .dead)).getD 1 .any))], .cells [.x (.int .i64 (gI ((oC (st.getD 1 .dead)).getD 0 .any))), .x (.int .i64 (gI ((oC (st.getD 1 .dead)).getD 1 .any)))]]) (fun q0_ q1_ => K .ret (bld [2] [.cl 0 0] 0 75) [.cells [.x (.int .i64 q0_), .x (.int .i64 q1_)]])
def C.calendar_Validate_L2_F (vs : List V) (st : List Ob) (K : Ex → St) : Prop := fitF C.calendar_Validate_L2_ss C.calendar_Validate_L2_os vs st (C.calendar_Validate_L2_G vs st K)
theorem C.calendar_Validate_L2_eq (v42 : (List Int)) (v43 : Int) (c : (List (Int × (Int × Int)))) (c1 : (List Int)) (m1 : Int) (m11 : Int) (K : Ex → St) : ∀ (fu : Nat) (v44 : Int), C.calendar_Validate_L2_R v42 v43 c1 fu v44 (K (.exit 2) (bld [2] [.cl 1 0] 0 75) [.cells [.ro (.pair (.int .i64) (.pair (.int .i64) (.int .i64))) c, .ro (.int .i64) c1], .cells [.x (.int .i64 m1), .x (.int .i64 m11)]]) (fun q0_ q1_ => K .ret (bld [2] [.cl 0 0] 0 75) [.cells [.x (.int .i64 q0_), .x (.int .i64 q1_)]]) = iterL (stepL (exec Try.prog (CC Try.prog C.Γ_calendar_Validate C.Δ_calendar_Validate) (drawD Try.prog C.Γ_calendar_Validate C.Δ_calendar_Validate) .leaf (sub [true, true, true, true, false, true, false, false] (codeOf Try.f14))) 2 C.calendar_Validate_L2_d K) fu (bld C.calendar_Validate_L2_d.keep [.cl 0 0, .cl 1 0, .ro (.int .i64) v42, .x (.int .i64 v43), .x (.int .i64 v44)] 0 75) [.cells [.ro (.pair (.int .i64) (.pair (.int .i64) (.int .i64))) c, .ro (.int .i64) c1], .cells [.x (.int .i64 m1), .x (.int .i64 m11)]] := by
  intro fu
  induction fu with
  | zero => intros; rfl
  | succ fu ih =>
    intro v44
    have e : (fun v44 => C.calendar_Validate_L2_R v42 v43 c1 fu v44 (K (.exit 2) (bld [2] [.cl 1 0] 0 75) [.cells [.ro (.pair (.int .i64) (.pair (.int .i64) (.int .i64))) c, .ro (.int .i64) c1], .cells [.x (.int .i64 m1), .x (.int .i64 m11)]]) (fun q0_ q1_ => K .ret (bld [2] [.cl 0 0] 0 75) [.cells [.x (.int .i64 q0_), .x (.int .i64 q1_)]])) = fun v44 => iterL (stepL (exec Try.prog (CC Try.prog C.Γ_calendar_Validate C.Δ_calendar_Validate) (drawD Try.prog C.Γ_calendar_Validate C.Δ_calendar_Validate) .leaf (sub [true, true, true, true, false, true, false, false] (codeOf Try.f14))) 2 C.calendar_Validate_L2_d K) fu (bld C.calendar_Validate_L2_d.keep [.cl 0 0, .cl 1 0, .ro (.int .i64) v42, .x (.int .i64 v43), .x (.int .i64 v44)] 0 75) [.cells [.ro (.pair (.int .i64) (.pair (.int .i64) (.int .i64))) c, .ro (.int .i64) c1], .cells [.x (.int .i64 m1), .x (.int .i64 m11)]] := by
      funext v44; exact ih v44
    show C.calendar_Validate_L2_b v42 v43 c1 v44 (fun v44 => C.calendar_Validate_L2_R v42 v43 c1 fu v44 (K (.exit 2) (bld [2] [.cl 1 0] 0 75) [.cells [.ro (.pair (.int .i64) (.pair (.int .i64) (.int .i64))) c, .ro (.int .i64) c1], .cells [.x (.int .i64 m1), .x (.int .i64 m11)]]) (fun q0_ q1_ => K .ret (bld [2] [.cl 0 0] 0 75) [.cells [.x (.int .i64 q0_), .x (.int .i64 q1_)]])) (K (.exit 2) (bld [2] [.cl 1 0] 0 75) [.cells [.ro (.pair (.int .i64) (.pair (.int .i64) (.int .i64))) c, .ro (.int .i64) c1], .cells [.x (.int .i64 m1), .x (.int .i64 m11)]]) (fun q0_ q1_ => K .ret (bld [2] [.cl 0 0] 0 75) [.cells [.x (.int .i64 q0_), .x (.int .i64 q1_)]]) = _
    rw [e]
    kernel_rfl
theorem C.calendar_Validate_L2_imp (vs : List V) (st : List Ob) (K : Ex → St) (h : C.calendar_Validate_L2_G vs st K) : ∃ fu, iterL (stepL (exec Try.prog (CC Try.prog C.Γ_calendar_Validate C.Δ_calendar_Validate) (drawD Try.prog C.Γ_calendar_Validate C.Δ_calendar_Validate) .leaf (sub [true, true, true, true, false, true, false, false] (codeOf Try.f14))) 2 C.calendar_Validate_L2_d K) fu (bld C.calendar_Validate_L2_d.keep (mkL C.calendar_Validate_L2_ss 0 vs) 0 75) (mkOs C.calendar_Validate_L2_os 0 st) :=
  exMap (fun fu h => @Eq.mp _ _ (Eq.trans (C.calendar_Validate_L2_eq (gR (.int .i64) (vs.getD 2 .any)) (gI (vs.getD 3 .any)) (gR (.pair (.int .i64) (.pair (.int .i64) (.int .i64))) ((oC (st.getD 0 .dead)).getD 0 .any)) (gR (.int .i64) ((oC (st.getD 0 .dead)).getD 1 .any)) (gI ((oC (st.getD 1 .dead)).getD 0 .any)) (gI ((oC (st.getD 1 .dead)).getD 1 .any)) K fu (gI (vs.getD 4 .any))) (by kernel_rfl)) h) (C.calendar_Validate_L2.out h)
theorem C.calendar_Validate_L2_ok : AnnOk Try.prog (CC Try.prog C.Γ_calendar_Validate C.Δ_calendar_Validate) (drawD Try.prog C.Γ_calendar_Validate C.Δ_calendar_Validate) 0 (.lift C.calendar_Validate_L2_d 75 C.calendar_Validate_L2_F) (.loop (sub [true, true, true, true, false, true, false, false] (codeOf Try.f14))) :=
  lift_ok (an := .leaf) (ss := C.calendar_Validate_L2_ss) (os := C.calendar_Validate_L2_os) (G := C.calendar_Validate_L2_G) rfl (Nat.le_of_ble_eq_true rfl) (annOk_leaf _) (C.calendar_Validate_L2_imp)
def C.calendar_Validate_B (c_Windows : (List (Int × (Int × Int)))) (c_Holidays : (List Int)) (K : Int → Int → Prop) : Prop :=
  (bif (decide ((c_Windows.length : Int) > 12)) then K 2 (-1) else (bif (decide ((c_Holidays.length : Int) > 12)) then K 2 (-2) else C.calendar_Validate_L1 c_Windows (c_Windows.length : Int) c_Windows 0 (C.calendar_Validate_L2 c_Holidays (c_Holidays.length : Int) c_Holidays 0 (K 0 0) (fun c c1 => K c c1)) (fun c2 c3 => K c2 c3)))
structure C.calendar_Validate (c_Windows : (List (Int × (Int × Int)))) (c_Holidays : (List Int)) (K : Int → Int → Prop) : Prop where
  out : C.calendar_Validate_B c_Windows c_Holidays K
def C.calendar_Validate_ss : List Sh := [.agg [.ro (.pair (.int .i64) (.pair (.int .i64) (.int .i64))), .ro (.int .i64)]]
def C.calendar_Validate_G (vs : List V) (K : V → List Ob → Prop) : Prop := C.calendar_Validate (gR (.pair (.int .i64) (.pair (.int .i64) (.int .i64))) ((gC (vs.getD 0 .any)).getD 0 .any)) (gR (.int .i64) ((gC (vs.getD 0 .any)).getD 1 .any)) (fun r0 r1 => K (.agg [.x (.int .i64 r0), .x (.int .i64 r1)]) [])
def C.calendar_Validate_S : SemF := fun args K => argF C.calendar_Validate_ss args fun a => C.calendar_Validate_G a K
theorem C.calendar_Validate_eq (c_Windows : (List (Int × (Int × Int)))) (c_Holidays : (List Int)) (K : V → List Ob → Prop) : run Try.prog C.Γ_calendar_Validate C.Δ_calendar_Validate (.node .leaf (.node .leaf (.node .leaf (.node (.node .leaf (.lift C.calendar_Validate_L1_d 75 C.calendar_Validate_L1_F)) (.node (.node .leaf (.lift C.calendar_Validate_L2_d 75 C.calendar_Validate_L2_F)) .leaf))))) .any Try.f14 [.agg [.ro (.pair (.int .i64) (.pair (.int .i64) (.int .i64))) c_Windows, .ro (.int .i64) c_Holidays]] K = C.calendar_Validate_B c_Windows c_Holidays (fun r0 r1 => K (.agg [.x (.int .i64 r0), .x (.int .i64 r1)]) []) := by
  kernel_rfl
theorem C.calendar_Validate_imp (vs : List V) (K : V → List Ob → Prop) : Imp (C.calendar_Validate_G vs K) (run Try.prog C.Γ_calendar_Validate C.Δ_calendar_Validate (.node .leaf (.node .leaf (.node .leaf (.node (.node .leaf (.lift C.calendar_Validate_L1_d 75 C.calendar_Validate_L1_F)) (.node (.node .leaf (.lift C.calendar_Validate_L2_d 75 C.calendar_Validate_L2_F)) .leaf))))) .any Try.f14 (mkL C.calendar_Validate_ss 0 vs) K) :=
  Imp.of (Eq.trans (b := run Try.prog C.Γ_calendar_Validate C.Δ_calendar_Validate (.node .leaf (.node .leaf (.node .leaf (.node (.node .leaf (.lift C.calendar_Validate_L1_d 75 C.calendar_Validate_L1_F)) (.node (.node .leaf (.lift C.calendar_Validate_L2_d 75 C.calendar_Validate_L2_F)) .leaf))))) .any Try.f14 [.agg [.ro (.pair (.int .i64) (.pair (.int .i64) (.int .i64))) (gR (.pair (.int .i64) (.pair (.int .i64) (.int .i64))) ((gC (vs.getD 0 .any)).getD 0 .any)), .ro (.int .i64) (gR (.int .i64) ((gC (vs.getD 0 .any)).getD 1 .any))]] K) (by kernel_rfl) (C.calendar_Validate_eq (gR (.pair (.int .i64) (.pair (.int .i64) (.int .i64))) ((gC (vs.getD 0 .any)).getD 0 .any)) (gR (.int .i64) ((gC (vs.getD 0 .any)).getD 1 .any)) K)) fun h => (C.calendar_Validate.out h)
theorem C.calendar_Validate_ok : SoundFn Try.prog 14 C.calendar_Validate_S :=
  fn_ok (sem := run Try.prog C.Γ_calendar_Validate C.Δ_calendar_Validate (.node .leaf (.node .leaf (.node .leaf (.node (.node .leaf (.lift C.calendar_Validate_L1_d 75 C.calendar_Validate_L1_F)) (.node (.node .leaf (.lift C.calendar_Validate_L2_d 75 C.calendar_Validate_L2_F)) .leaf))))) .any Try.f14) (ss := C.calendar_Validate_ss) (G := C.calendar_Validate_G) (run_ok C.Γ_calendar_Validate_ok C.Δ_calendar_Validate_ok Try.func14 (ann := (.node .leaf (.node .leaf (.node .leaf (.node (.node .leaf (.lift C.calendar_Validate_L1_d 75 C.calendar_Validate_L1_F)) (.node (.node .leaf (.lift C.calendar_Validate_L2_d 75 C.calendar_Validate_L2_F)) .leaf)))))) ⟨(annOk_leaf _), ⟨(annOk_leaf _), ⟨(annOk_leaf _), ⟨⟨(annOk_leaf _), C.calendar_Validate_L1_ok⟩, ⟨⟨(annOk_leaf _), C.calendar_Validate_L2_ok⟩, (annOk_leaf _)⟩⟩⟩⟩⟩) C.calendar_Validate_imp
/-- changeforge/calendar.check$1 -/
def C.Γ_calendar_check_1 : Ctx := ctxC C.Γ_calendar_Validate 14 C.calendar_Validate_S
theorem C.Γ_calendar_check_1_ok : SoundG Try.prog C.Γ_calendar_check_1 := ctxC_ok C.Γ_calendar_Validate_ok C.calendar_Validate_ok
def C.Δ_calendar_check_1 : CtxO := C.Δ_calendar_Validate
theorem C.Δ_calendar_check_1_ok : SoundGO Try.prog C.Δ_calendar_check_1 := C.Δ_calendar_Validate_ok
def C.calendar_check_1_B (t : Int) (K : Bool → Prop) : Prop :=
  K (bif (decide (t < 0)) then true else (decide (t > 10000000)))
structure C.calendar_check_1 (t : Int) (K : Bool → Prop) : Prop where
  out : C.calendar_check_1_B t K
def C.calendar_check_1_ss : List Sh := [.int .i64]
def C.calendar_check_1_G (vs : List V) (K : V → List Ob → Prop) : Prop := C.calendar_check_1 (gI (vs.getD 0 .any)) (fun r0 => K (.x (.bool r0)) [])
def C.calendar_check_1_S : SemF := fun args K => argF C.calendar_check_1_ss args fun a => C.calendar_check_1_G a K
theorem C.calendar_check_1_eq (t : Int) (K : V → List Ob → Prop) : run Try.prog C.Γ_calendar_check_1 C.Δ_calendar_check_1 .leaf .any Try.f26 [.x (.int .i64 t)] K = C.calendar_check_1_B t (fun r0 => K (.x (.bool r0)) []) := by
  kernel_rfl
theorem C.calendar_check_1_imp (vs : List V) (K : V → List Ob → Prop) : Imp (C.calendar_check_1_G vs K) (run Try.prog C.Γ_calendar_check_1 C.Δ_calendar_check_1 .leaf .any Try.f26 (mkL C.calendar_check_1_ss 0 vs) K) :=
  Imp.of (Eq.trans (b := run Try.prog C.Γ_calendar_check_1 C.Δ_calendar_check_1 .leaf .any Try.f26 [.x (.int .i64 (gI (vs.getD 0 .any)))] K) (by kernel_rfl) (C.calendar_check_1_eq (gI (vs.getD 0 .any)) K)) fun h => (C.calendar_check_1.out h)
theorem C.calendar_check_1_ok : SoundFn Try.prog 26 C.calendar_check_1_S :=
  fn_ok (sem := run Try.prog C.Γ_calendar_check_1 C.Δ_calendar_check_1 .leaf .any Try.f26) (ss := C.calendar_check_1_ss) (G := C.calendar_check_1_G) (run_ok C.Γ_calendar_check_1_ok C.Δ_calendar_check_1_ok Try.func26 (ann := .leaf) (annOk_leaf _)) C.calendar_check_1_imp
/-- slices.IndexFunc[[]int,int] -/
def C.Γ_slices_IndexFunc_v2 : Ctx := ctxC C.Γ_calendar_check_1 26 C.calendar_check_1_S
theorem C.Γ_slices_IndexFunc_v2_ok : SoundG Try.prog C.Γ_slices_IndexFunc_v2 := ctxC_ok C.Γ_calendar_check_1_ok C.calendar_check_1_ok
def C.Δ_slices_IndexFunc_v2 : CtxO := C.Δ_calendar_check_1
theorem C.Δ_slices_IndexFunc_v2_ok : SoundGO Try.prog C.Δ_slices_IndexFunc_v2 := C.Δ_calendar_check_1_ok
def C.slices_IndexFunc_v2_L1_b (s1 : (List Int)) (v7 : Int) (v8 : Int) (self : Int → Prop) (Kx0 : Prop) (Kr : Int → Prop) : Prop :=
  (bif (decide (v8 < v7)) then (inB v8 s1.length) ∧ C.calendar_check_1 (s1.getD v8.toNat 0) (fun r => (bif r then Kr v8 else self (i64 (v8 + 1)))) else Kx0)
def C.slices_IndexFunc_v2_L1_R (s1 : (List Int)) (v7 : Int) : Nat → Int → (Prop) → (Int → Prop) → Prop
  | 0, _, _, _ => False
  | fu + 1, v8, Kx0, Kr => C.slices_IndexFunc_v2_L1_b s1 v7 v8 (fun v8 => C.slices_IndexFunc_v2_L1_R s1 v7 fu v8 Kx0 Kr) Kx0 Kr
structure C.slices_IndexFunc_v2_L1 (s1 : (List Int)) (v7 : Int) (v8 : Int) (Kx0 : Prop) (Kr : Int → Prop) : Prop where
  out : ∃ fu, C.slices_IndexFunc_v2_L1_R s1 v7 fu v8 Kx0 Kr
def C.slices_IndexFunc_v2_L1_d : LoopD := { base := 0, vecs := [], flds := [], keep := [0, 1, 7, 8], out := [], rets := [4], rv := [], rbase := 0 }
def C.slices_IndexFunc_v2_L1_ss : List Sh := [.ro (.int .i64), .fn 26 [] [], .int .i64, .int .i64]
def C.slices_IndexFunc_v2_L1_os : List OSh := []
def C.slices_IndexFunc_v2_L1_G (vs : List V) (st : List Ob) (K : Ex → St) : Prop := C.slices_IndexFunc_v2_L1 (gR (.int .i64) (vs.getD 0 .any)) (gI (vs.getD 2 .any)) (gI (vs.getD 3 .any)) (K (.exit 0) (bld [] [] 0 19) []) (fun q0_ => K .ret (bld [4] [.x (.int .i64 q0_)] 0 19) [])
def C.slices_IndexFunc_v2_L1_F (vs : List V) (st : List Ob) (K : Ex → St) : Prop := fitF C.slices_IndexFunc_v2_L1_ss C.slices_IndexFunc_v2_L1_os vs st (C.slices_IndexFunc_v2_L1_G vs st K)
theorem C.slices_IndexFunc_v2_L1_eq (s1 : (List Int)) (v7 : Int) (K : Ex → St) : ∀ (fu : Nat) (v8 : Int), C.slices_IndexFunc_v2_L1_R s1 v7 fu v8 (K (.exit 0) (bld [] [] 0 19) []) (fun q0_ => K .ret (bld [4] [.x (.int .i64 q0_)] 0 19) []) = iterL (stepL (exec Try.prog (CC Try.prog C.Γ_slices_IndexFunc_v2 C.Δ_slices_IndexFunc_v2) (drawD Try.prog C.Γ_slices_IndexFunc_v2 C.Δ_slices_IndexFunc_v2) .leaf (sub [true, false, true, false, false] (codeOf Try.f29))) 0 C.slices_IndexFunc_v2_L1_d K) fu (bld C.slices_IndexFunc_v2_L1_d.keep [.ro (.int .i64) s1, .fn (.func 26) [] [], .x (.int .i64 v7), .x (.int .i64 v8)] 0 19) [] := by
  intro fu
  induction fu with
  | zero => intros; rfl
  | succ fu ih =>
    intro v8
    have e : (fun v8 => C.slices_IndexFunc_v2_L1_R s1 v7 fu v8 (K (.exit 0) (bld [] [] 0 19) []) (fun q0_ => K .ret (bld [4] [.x (.int .i64 q0_)] 0 19) [])) = fun v8 => iterL (stepL (exec Try.prog (CC Try.prog C.Γ_slices_IndexFunc_v2 C.Δ_slices_IndexFunc_v2) (drawD Try.prog C.Γ_slices_IndexFunc_v2 C.Δ_slices_IndexFunc_v2) .leaf (sub [true, false, true, false, false] (codeOf Try.f29))) 0 C.slices_IndexFunc_v2_L1_d K) fu (bld C.slices_IndexFunc_v2_L1_d.keep [.ro (.int .i64) s1, .fn (.func 26) [] [], .x (.int .i64 v7), .x (.int .i64 v8)] 0 19) [] := by
      funext v8; exact ih v8
    show C.slices_IndexFunc_v2_L1_b s1 v7 v8 (fun v8 => C.slices_IndexFunc_v2_L1_R s1 v7 fu v8 (K (.exit 0) (bld [] [] 0 19) []) (fun q0_ => K .ret (bld [4] [.x (.int .i64 q0_)] 0 19) [])) (K (.exit 0) (bld [] [] 0 19) []) (fun q0_ => K .ret (bld [4] [.x (.int .i64 q0_)] 0 19) []) = _
    rw [e]
    kernel_rfl
theorem C.slices_IndexFunc_v2_L1_imp (vs : List V) (st : List Ob) (K : Ex → St) (h : C.slices_IndexFunc_v2_L1_G vs st K) : ∃ fu, iterL (stepL (exec Try.prog (CC Try.prog C.Γ_slices_IndexFunc_v2 C.Δ_slices_IndexFunc_v2) (drawD Try.prog C.Γ_slices_IndexFunc_v2 C.Δ_slices_IndexFunc_v2) .leaf (sub [true, false, true, false, false] (codeOf Try.f29))) 0 C.slices_IndexFunc_v2_L1_d K) fu (bld C.slices_IndexFunc_v2_L1_d.keep (mkL C.slices_IndexFunc_v2_L1_ss 0 vs) 0 19) (mkOs C.slices_IndexFunc_v2_L1_os 0 st) :=
  exMap (fun fu h => @Eq.mp _ _ (Eq.trans (C.slices_IndexFunc_v2_L1_eq (gR (.int .i64) (vs.getD 0 .any)) (gI (vs.getD 2 .any)) K fu (gI (vs.getD 3 .any))) (by kernel_rfl)) h) (C.slices_IndexFunc_v2_L1.out h)
theorem C.slices_IndexFunc_v2_L1_ok : AnnOk Try.prog (CC Try.prog C.Γ_slices_IndexFunc_v2 C.Δ_slices_IndexFunc_v2) (drawD Try.prog C.Γ_slices_IndexFunc_v2 C.Δ_slices_IndexFunc_v2) 0 (.lift C.slices_IndexFunc_v2_L1_d 19 C.slices_IndexFunc_v2_L1_F) (.loop (sub [true, false, true, false, false] (codeOf Try.f29))) :=
  lift_ok (an := .leaf) (ss := C.slices_IndexFunc_v2_L1_ss) (os := C.slices_IndexFunc_v2_L1_os) (G := C.slices_IndexFunc_v2_L1_G) rfl (Nat.le_of_ble_eq_true rfl) (annOk_leaf _) (C.slices_IndexFunc_v2_L1_imp)
def C.slices_IndexFunc_v2_B (s : (List Int)) (K : Int → Prop) : Prop :=
  C.slices_IndexFunc_v2_L1 s (s.length : Int) 0 (K (-1)) (fun r => K r)
structure C.slices_IndexFunc_v2 (s : (List Int)) (K : Int → Prop) : Prop where
  out : C.slices_IndexFunc_v2_B s K
def C.slices_IndexFunc_v2_ss : List Sh := [.ro (.int .i64), .fn 26 [] []]
def C.slices_IndexFunc_v2_G (vs : List V) (K : V → List Ob → Prop) : Prop := C.slices_IndexFunc_v2 (gR (.int .i64) (vs.getD 0 .any)) (fun r0 => K (.x (.int .i64 r0)) [])
def C.slices_IndexFunc_v2_S : SemF := fun args K => argF C.slices_IndexFunc_v2_ss args fun a => C.slices_IndexFunc_v2_G a K
theorem C.slices_IndexFunc_v2_eq (s : (List Int)) (K : V → List Ob → Prop) : run Try.prog C.Γ_slices_IndexFunc_v2 C.Δ_slices_IndexFunc_v2 (.node .leaf (.node (.node .leaf (.lift C.slices_IndexFunc_v2_L1_d 19 C.slices_IndexFunc_v2_L1_F)) .leaf)) .any Try.f29 [.ro (.int .i64) s, .fn (.func 26) [] []] K = C.slices_IndexFunc_v2_B s (fun r0 => K (.x (.int .i64 r0)) []) := by
  kernel_rfl
theorem C.slices_IndexFunc_v2_imp (vs : List V) (K : V → List Ob → Prop) : Imp (C.slices_IndexFunc_v2_G vs K) (run Try.prog C.Γ_slices_IndexFunc_v2 C.Δ_slices_IndexFunc_v2 (.node .leaf (.node (.node .leaf (.lift C.slices_IndexFunc_v2_L1_d 19 C.slices_IndexFunc_v2_L1_F)) .leaf)) .any Try.f29 (mkL C.slices_IndexFunc_v2_ss 0 vs) K) :=
  Imp.of (Eq.trans (b := run Try.prog C.Γ_slices_IndexFunc_v2 C.Δ_slices_IndexFunc_v2 (.node .leaf (.node (.node .leaf (.lift C.slices_IndexFunc_v2_L1_d 19 C.slices_IndexFunc_v2_L1_F)) .leaf)) .any Try.f29 [.ro (.int .i64) (gR (.int .i64) (vs.getD 0 .any)), .fn (.func 26) [] []] K) (by kernel_rfl) (C.slices_IndexFunc_v2_eq (gR (.int .i64) (vs.getD 0 .any)) K)) fun h => (C.slices_IndexFunc_v2.out h)
theorem C.slices_IndexFunc_v2_ok : SoundFn Try.prog 29 C.slices_IndexFunc_v2_S :=
  fn_ok (sem := run Try.prog C.Γ_slices_IndexFunc_v2 C.Δ_slices_IndexFunc_v2 (.node .leaf (.node (.node .leaf (.lift C.slices_IndexFunc_v2_L1_d 19 C.slices_IndexFunc_v2_L1_F)) .leaf)) .any Try.f29) (ss := C.slices_IndexFunc_v2_ss) (G := C.slices_IndexFunc_v2_G) (run_ok C.Γ_slices_IndexFunc_v2_ok C.Δ_slices_IndexFunc_v2_ok Try.func29 (ann := (.node .leaf (.node (.node .leaf (.lift C.slices_IndexFunc_v2_L1_d 19 C.slices_IndexFunc_v2_L1_F)) .leaf))) ⟨(annOk_leaf _), ⟨⟨(annOk_leaf _), C.slices_IndexFunc_v2_L1_ok⟩, (annOk_leaf _)⟩⟩) C.slices_IndexFunc_v2_imp
/-- slices.ContainsFunc[[]int,int] -/
def C.Γ_slices_ContainsFunc_v1 : Ctx := ctxA C.Γ_slices_IndexFunc_v2 29 C.slices_IndexFunc_v2_ss C.slices_IndexFunc_v2_G
theorem C.Γ_slices_ContainsFunc_v1_ok : SoundG Try.prog C.Γ_slices_ContainsFunc_v1 := ctxA_ok C.Γ_slices_IndexFunc_v2_ok C.slices_IndexFunc_v2_ok
def C.Δ_slices_ContainsFunc_v1 : CtxO := C.Δ_slices_IndexFunc_v2
theorem C.Δ_slices_ContainsFunc_v1_ok : SoundGO Try.prog C.Δ_slices_ContainsFunc_v1 := C.Δ_slices_IndexFunc_v2_ok
def C.slices_ContainsFunc_v1_B (s : (List Int)) (K : Bool → Prop) : Prop :=
  C.slices_IndexFunc_v2 s (fun r => K (decide (r ≥ 0)))
structure C.slices_ContainsFunc_v1 (s : (List Int)) (K : Bool → Prop) : Prop where
  out : C.slices_ContainsFunc_v1_B s K
def C.slices_ContainsFunc_v1_ss : List Sh := [.ro (.int .i64), .fn 26 [] []]
def C.slices_ContainsFunc_v1_G (vs : List V) (K : V → List Ob → Prop) : Prop := C.slices_ContainsFunc_v1 (gR (.int .i64) (vs.getD 0 .any)) (fun r0 => K (.x (.bool r0)) [])
def C.slices_ContainsFunc_v1_S : SemF := fun args K => argF C.slices_ContainsFunc_v1_ss args fun a => C.slices_ContainsFunc_v1_G a K
theorem C.slices_ContainsFunc_v1_eq (s : (List Int)) (K : V → List Ob → Prop) : run Try.prog C.Γ_slices_ContainsFunc_v1 C.Δ_slices_ContainsFunc_v1 .leaf .any Try.f25 [.ro (.int .i64) s, .fn (.func 26) [] []] K = C.slices_ContainsFunc_v1_B s (fun r0 => K (.x (.bool r0)) []) := by
  kernel_rfl
theorem C.slices_ContainsFunc_v1_imp (vs : List V) (K : V → List Ob → Prop) : Imp (C.slices_ContainsFunc_v1_G vs K) (run Try.prog C.Γ_slices_ContainsFunc_v1 C.Δ_slices_ContainsFunc_v1 .leaf .any Try.f25 (mkL C.slices_ContainsFunc_v1_ss 0 vs) K) :=
  Imp.of (Eq.trans (b := run Try.prog C.Γ_slices_ContainsFunc_v1 C.Δ_slices_ContainsFunc_v1 .leaf .any Try.f25 [.ro (.int .i64) (gR (.int .i64) (vs.getD 0 .any)), .fn (.func 26) [] []] K) (by kernel_rfl) (C.slices_ContainsFunc_v1_eq (gR (.int .i64) (vs.getD 0 .any)) K)) fun h => (C.slices_ContainsFunc_v1.out h)
theorem C.slices_ContainsFunc_v1_ok : SoundFn Try.prog 25 C.slices_ContainsFunc_v1_S :=
  fn_ok (sem := run Try.prog C.Γ_slices_ContainsFunc_v1 C.Δ_slices_ContainsFunc_v1 .leaf .any Try.f25) (ss := C.slices_ContainsFunc_v1_ss) (G := C.slices_ContainsFunc_v1_G) (run_ok C.Γ_slices_ContainsFunc_v1_ok C.Δ_slices_ContainsFunc_v1_ok Try.func25 (ann := .leaf) (annOk_leaf _)) C.slices_ContainsFunc_v1_imp
/-- changeforge/calendar.check -/
def C.Γ_calendar_check : Ctx := ctxA C.Γ_slices_ContainsFunc_v1 25 C.slices_ContainsFunc_v1_ss C.slices_ContainsFunc_v1_G
theorem C.Γ_calendar_check_ok : SoundG Try.prog C.Γ_calendar_check := ctxA_ok C.Γ_slices_ContainsFunc_v1_ok C.slices_ContainsFunc_v1_ok
def C.Δ_calendar_check : CtxO := C.Δ_slices_ContainsFunc_v1
theorem C.Δ_calendar_check_ok : SoundGO Try.prog C.Δ_calendar_check := C.Δ_slices_ContainsFunc_v1_ok
def C.calendar_check_B (c_Windows : (List (Int × (Int × Int)))) (c_Holidays : (List Int)) (times : (List Int)) (K : Int → Int → Prop) : Prop :=
  C.calendar_Validate c_Windows c_Holidays (fun rCode rIndex => (bif (!((rCode == 0) && ((rIndex == 0) && true))) then K rCode rIndex else C.slices_ContainsFunc_v1 times (fun r => (bif r then K 3 (-20) else K 0 0))))
structure C.calendar_check (c_Windows : (List (Int × (Int × Int)))) (c_Holidays : (List Int)) (times : (List Int)) (K : Int → Int → Prop) : Prop where
  out : C.calendar_check_B c_Windows c_Holidays times K
def C.calendar_check_ss : List Sh := [.agg [.ro (.pair (.int .i64) (.pair (.int .i64) (.int .i64))), .ro (.int .i64)], .ro (.int .i64)]
def C.calendar_check_G (vs : List V) (K : V → List Ob → Prop) : Prop := C.calendar_check (gR (.pair (.int .i64) (.pair (.int .i64) (.int .i64))) ((gC (vs.getD 0 .any)).getD 0 .any)) (gR (.int .i64) ((gC (vs.getD 0 .any)).getD 1 .any)) (gR (.int .i64) (vs.getD 1 .any)) (fun r0 r1 => K (.agg [.x (.int .i64 r0), .x (.int .i64 r1)]) [])
def C.calendar_check_S : SemF := fun args K => argF C.calendar_check_ss args fun a => C.calendar_check_G a K
theorem C.calendar_check_eq (c_Windows : (List (Int × (Int × Int)))) (c_Holidays : (List Int)) (times : (List Int)) (K : V → List Ob → Prop) : run Try.prog C.Γ_calendar_check C.Δ_calendar_check .leaf .any Try.f20 [.agg [.ro (.pair (.int .i64) (.pair (.int .i64) (.int .i64))) c_Windows, .ro (.int .i64) c_Holidays], .ro (.int .i64) times] K = C.calendar_check_B c_Windows c_Holidays times (fun r0 r1 => K (.agg [.x (.int .i64 r0), .x (.int .i64 r1)]) []) := by
  kernel_rfl
theorem C.calendar_check_imp (vs : List V) (K : V → List Ob → Prop) : Imp (C.calendar_check_G vs K) (run Try.prog C.Γ_calendar_check C.Δ_calendar_check .leaf .any Try.f20 (mkL C.calendar_check_ss 0 vs) K) :=
  Imp.of (Eq.trans (b := run Try.prog C.Γ_calendar_check C.Δ_calendar_check .leaf .any Try.f20 [.agg [.ro (.pair (.int .i64) (.pair (.int .i64) (.int .i64))) (gR (.pair (.int .i64) (.pair (.int .i64) (.int .i64))) ((gC (vs.getD 0 .any)).getD 0 .any)), .ro (.int .i64) (gR (.int .i64) ((gC (vs.getD 0 .any)).getD 1 .any))], .ro (.int .i64) (gR (.int .i64) (vs.getD 1 .any))] K) (by kernel_rfl) (C.calendar_check_eq (gR (.pair (.int .i64) (.pair (.int .i64) (.int .i64))) ((gC (vs.getD 0 .any)).getD 0 .any)) (gR (.int .i64) ((gC (vs.getD 0 .any)).getD 1 .any)) (gR (.int .i64) (vs.getD 1 .any)) K)) fun h => (C.calendar_check.out h)
theorem C.calendar_check_ok : SoundFn Try.prog 20 C.calendar_check_S :=
  fn_ok (sem := run Try.prog C.Γ_calendar_check C.Δ_calendar_check .leaf .any Try.f20) (ss := C.calendar_check_ss) (G := C.calendar_check_G) (run_ok C.Γ_calendar_check_ok C.Δ_calendar_check_ok Try.func20 (ann := .leaf) (annOk_leaf _)) C.calendar_check_imp
/-- slices.Index[[]int,int] -/
def C.Γ_slices_Index : Ctx := ctxC C.Γ_calendar_check 20 C.calendar_check_S
theorem C.Γ_slices_Index_ok : SoundG Try.prog C.Γ_slices_Index := ctxC_ok C.Γ_calendar_check_ok C.calendar_check_ok
def C.Δ_slices_Index : CtxO := C.Δ_calendar_check
theorem C.Δ_slices_Index_ok : SoundGO Try.prog C.Δ_slices_Index := C.Δ_calendar_check_ok
def C.slices_Index_L1_b (s1 : (List Int)) (v1 : Int) (v7 : Int) (v8 : Int) (self : Int → Prop) (Kx0 : Prop) (Kr : Int → Prop) : Prop :=
  (bif (decide (v8 < v7)) then (inB v8 s1.length) ∧ (bif (v1 == (s1.getD v8.toNat 0)) then Kr v8 else self (i64 (v8 + 1))) else Kx0)
def C.slices_Index_L1_R (s1 : (List Int)) (v1 : Int) (v7 : Int) : Nat → Int → (Prop) → (Int → Prop) → Prop
  | 0, _, _, _ => False
  | fu + 1, v8, Kx0, Kr => C.slices_Index_L1_b s1 v1 v7 v8 (fun v8 => C.slices_Index_L1_R s1 v1 v7 fu v8 Kx0 Kr) Kx0 Kr
structure C.slices_Index_L1 (s1 : (List Int)) (v1 : Int) (v7 : Int) (v8 : Int) (Kx0 : Prop) (Kr : Int → Prop) : Prop where
  out : ∃ fu, C.slices_Index_L1_R s1 v1 v7 fu v8 Kx0 Kr
def C.slices_Index_L1_d : LoopD := { base := 0, vecs := [], flds := [], keep := [0, 1, 7, 8], out := [], rets := [4], rv := [], rbase := 0 }
def C.slices_Index_L1_ss : List Sh := [.ro (.int .i64), .int .i64, .int .i64, .int .i64]
def C.slices_Index_L1_os : List OSh := []
def C.slices_Index_L1_G (vs : List V) (st : List Ob) (K : Ex → St) : Prop := C.slices_Index_L1 (gR (.int .i64) (vs.getD 0 .any)) (gI (vs.getD 1 .any)) (gI (vs.getD 2 .any)) (gI (vs.getD 3 .any)) (K (.exit 0) (bld [] [] 0 19) []) (fun q0_ => K .ret (bld [4] [.x (.int .i64 q0_)] 0 19) [])
def C.slices_Index_L1_F (vs : List V) (st : List Ob) (K : Ex → St) : Prop := fitF C.slices_Index_L1_ss C.slices_Index_L1_os vs st (C.slices_Index_L1_G vs st K)
theorem C.slices_Index_L1_eq (s1 : (List Int)) (v1 : Int) (v7 : Int) (K : Ex → St) : ∀ (fu : Nat) (v8 : Int), C.slices_Index_L1_R s1 v1 v7 fu v8 (K (.exit 0) (bld [] [] 0 19) []) (fun q0_ => K .ret (bld [4] [.x (.int .i64 q0_)] 0 19) []) = iterL (stepL (exec Try.prog (CC Try.prog C.Γ_slices_Index C.Δ_slices_Index) (drawD Try.prog C.Γ_slices_Index C.Δ_slices_Index) .leaf (sub [true, false, true, false, false] (codeOf Try.f30))) 0 C.slices_Index_L1_d K) fu (bld C.slices_Index_L1_d.keep [.ro (.int .i64) s1, .x (.int .i64 v1), .x (.int .i64 v7), .x (.int .i64 v8)] 0 19) [] := by
  intro fu
  induction fu with
  | zero => intros; rfl
  | succ fu ih =>
    intro v8
    have e : (fun v8 => C.slices_Index_L1_R s1 v1 v7 fu v8 (K (.exit 0) (bld [] [] 0 19) []) (fun q0_ => K .ret (bld [4] [.x (.int .i64 q0_)] 0 19) [])) = fun v8 => iterL (stepL (exec Try.prog (CC Try.prog C.Γ_slices_Index C.Δ_slices_Index) (drawD Try.prog C.Γ_slices_Index C.Δ_slices_Index) .leaf (sub [true, false, true, false, false] (codeOf Try.f30))) 0 C.slices_Index_L1_d K) fu (bld C.slices_Index_L1_d.keep [.ro (.int .i64) s1, .x (.int .i64 v1), .x (.int .i64 v7), .x (.int .i64 v8)] 0 19) [] := by
      funext v8; exact ih v8
    show C.slices_Index_L1_b s1 v1 v7 v8 (fun v8 => C.slices_Index_L1_R s1 v1 v7 fu v8 (K (.exit 0) (bld [] [] 0 19) []) (fun q0_ => K .ret (bld [4] [.x (.int .i64 q0_)] 0 19) [])) (K (.exit 0) (bld [] [] 0 19) []) (fun q0_ => K .ret (bld [4] [.x (.int .i64 q0_)] 0 19) []) = _
    rw [e]
    kernel_rfl
theorem C.slices_Index_L1_imp (vs : List V) (st : List Ob) (K : Ex → St) (h : C.slices_Index_L1_G vs st K) : ∃ fu, iterL (stepL (exec Try.prog (CC Try.prog C.Γ_slices_Index C.Δ_slices_Index) (drawD Try.prog C.Γ_slices_Index C.Δ_slices_Index) .leaf (sub [true, false, true, false, false] (codeOf Try.f30))) 0 C.slices_Index_L1_d K) fu (bld C.slices_Index_L1_d.keep (mkL C.slices_Index_L1_ss 0 vs) 0 19) (mkOs C.slices_Index_L1_os 0 st) :=
  exMap (fun fu h => @Eq.mp _ _ (Eq.trans (C.slices_Index_L1_eq (gR (.int .i64) (vs.getD 0 .any)) (gI (vs.getD 1 .any)) (gI (vs.getD 2 .any)) K fu (gI (vs.getD 3 .any))) (by kernel_rfl)) h) (C.slices_Index_L1.out h)
theorem C.slices_Index_L1_ok : AnnOk Try.prog (CC Try.prog C.Γ_slices_Index C.Δ_slices_Index) (drawD Try.prog C.Γ_slices_Index C.Δ_slices_Index) 0 (.lift C.slices_Index_L1_d 19 C.slices_Index_L1_F) (.loop (sub [true, false, true, false, false] (codeOf Try.f30))) :=
  lift_ok (an := .leaf) (ss := C.slices_Index_L1_ss) (os := C.slices_Index_L1_os) (G := C.slices_Index_L1_G) rfl (Nat.le_of_ble_eq_true rfl) (annOk_leaf _) (C.slices_Index_L1_imp)
def C.slices_Index_B (s : (List Int)) (v : Int) (K : Int → Prop) : Prop :=
  C.slices_Index_L1 s v (s.length : Int) 0 (K (-1)) (fun r => K r)
structure C.slices_Index (s : (List Int)) (v : Int) (K : Int → Prop) : Prop where
  out : C.slices_Index_B s v K
def C.slices_Index_ss : List Sh := [.ro (.int .i64), .int .i64]
def C.slices_Index_G (vs : List V) (K : V → List Ob → Prop) : Prop := C.slices_Index (gR (.int .i64) (vs.getD 0 .any)) (gI (vs.getD 1 .any)) (fun r0 => K (.x (.int .i64 r0)) [])
def C.slices_Index_S : SemF := fun args K => argF C.slices_Index_ss args fun a => C.slices_Index_G a K
theorem C.slices_Index_eq (s : (List Int)) (v : Int) (K : V → List Ob → Prop) : run Try.prog C.Γ_slices_Index C.Δ_slices_Index (.node .leaf (.node (.node .leaf (.lift C.slices_Index_L1_d 19 C.slices_Index_L1_F)) .leaf)) .any Try.f30 [.ro (.int .i64) s, .x (.int .i64 v)] K = C.slices_Index_B s v (fun r0 => K (.x (.int .i64 r0)) []) := by
  kernel_rfl
theorem C.slices_Index_imp (vs : List V) (K : V → List Ob → Prop) : Imp (C.slices_Index_G vs K) (run Try.prog C.Γ_slices_Index C.Δ_slices_Index (.node .leaf (.node (.node .leaf (.lift C.slices_Index_L1_d 19 C.slices_Index_L1_F)) .leaf)) .any Try.f30 (mkL C.slices_Index_ss 0 vs) K) :=
  Imp.of (Eq.trans (b := run Try.prog C.Γ_slices_Index C.Δ_slices_Index (.node .leaf (.node (.node .leaf (.lift C.slices_Index_L1_d 19 C.slices_Index_L1_F)) .leaf)) .any Try.f30 [.ro (.int .i64) (gR (.int .i64) (vs.getD 0 .any)), .x (.int .i64 (gI (vs.getD 1 .any)))] K) (by kernel_rfl) (C.slices_Index_eq (gR (.int .i64) (vs.getD 0 .any)) (gI (vs.getD 1 .any)) K)) fun h => (C.slices_Index.out h)
theorem C.slices_Index_ok : SoundFn Try.prog 30 C.slices_Index_S :=
  fn_ok (sem := run Try.prog C.Γ_slices_Index C.Δ_slices_Index (.node .leaf (.node (.node .leaf (.lift C.slices_Index_L1_d 19 C.slices_Index_L1_F)) .leaf)) .any Try.f30) (ss := C.slices_Index_ss) (G := C.slices_Index_G) (run_ok C.Γ_slices_Index_ok C.Δ_slices_Index_ok Try.func30 (ann := (.node .leaf (.node (.node .leaf (.lift C.slices_Index_L1_d 19 C.slices_Index_L1_F)) .leaf))) ⟨(annOk_leaf _), ⟨⟨(annOk_leaf _), C.slices_Index_L1_ok⟩, (annOk_leaf _)⟩⟩) C.slices_Index_imp
/-- slices.Contains[[]int,int] -/
def C.Γ_slices_Contains : Ctx := ctxC C.Γ_slices_Index 30 C.slices_Index_S
theorem C.Γ_slices_Contains_ok : SoundG Try.prog C.Γ_slices_Contains := ctxC_ok C.Γ_slices_Index_ok C.slices_Index_ok
def C.Δ_slices_Contains : CtxO := C.Δ_slices_Index
theorem C.Δ_slices_Contains_ok : SoundGO Try.prog C.Δ_slices_Contains := C.Δ_slices_Index_ok
def C.slices_Contains_B (s : (List Int)) (v : Int) (K : Bool → Prop) : Prop :=
  C.slices_Index s v (fun r => K (decide (r ≥ 0)))
structure C.slices_Contains (s : (List Int)) (v : Int) (K : Bool → Prop) : Prop where
  out : C.slices_Contains_B s v K
def C.slices_Contains_ss : List Sh := [.ro (.int .i64), .int .i64]
def C.slices_Contains_G (vs : List V) (K : V → List Ob → Prop) : Prop := C.slices_Contains (gR (.int .i64) (vs.getD 0 .any)) (gI (vs.getD 1 .any)) (fun r0 => K (.x (.bool r0)) [])
def C.slices_Contains_S : SemF := fun args K => argF C.slices_Contains_ss args fun a => C.slices_Contains_G a K
theorem C.slices_Contains_eq (s : (List Int)) (v : Int) (K : V → List Ob → Prop) : run Try.prog C.Γ_slices_Contains C.Δ_slices_Contains .leaf .any Try.f28 [.ro (.int .i64) s, .x (.int .i64 v)] K = C.slices_Contains_B s v (fun r0 => K (.x (.bool r0)) []) := by
  kernel_rfl
theorem C.slices_Contains_imp (vs : List V) (K : V → List Ob → Prop) : Imp (C.slices_Contains_G vs K) (run Try.prog C.Γ_slices_Contains C.Δ_slices_Contains .leaf .any Try.f28 (mkL C.slices_Contains_ss 0 vs) K) :=
  Imp.of (Eq.trans (b := run Try.prog C.Γ_slices_Contains C.Δ_slices_Contains .leaf .any Try.f28 [.ro (.int .i64) (gR (.int .i64) (vs.getD 0 .any)), .x (.int .i64 (gI (vs.getD 1 .any)))] K) (by kernel_rfl) (C.slices_Contains_eq (gR (.int .i64) (vs.getD 0 .any)) (gI (vs.getD 1 .any)) K)) fun h => (C.slices_Contains.out h)
theorem C.slices_Contains_ok : SoundFn Try.prog 28 C.slices_Contains_S :=
  fn_ok (sem := run Try.prog C.Γ_slices_Contains C.Δ_slices_Contains .leaf .any Try.f28) (ss := C.slices_Contains_ss) (G := C.slices_Contains_G) (run_ok C.Γ_slices_Contains_ok C.Δ_slices_Contains_ok Try.func28 (ann := .leaf) (annOk_leaf _)) C.slices_Contains_imp
end Go.Proofs.Ytmnalcfclcgmkaa

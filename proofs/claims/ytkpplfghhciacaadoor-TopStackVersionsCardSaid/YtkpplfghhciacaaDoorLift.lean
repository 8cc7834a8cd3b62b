/-
  The Go functions of this part as plain functions in continuation style, printed by a program of mine, each with the proof that the Go function does what it says. Conditions: none.
-/
import Derived.Test.YtkpplfghhciacaaDoorEngW
import Derived.Test.YtkpplfghhciacaaDoorProg
import Derived.Test.YtkpplfghhciacaaDoorLdK
import Derived.Test.YtkpplfghhciacaaDoorLaA
set_option linter.unusedVariables false
set_option maxRecDepth 100000
namespace Go.Proofs.YtkpplfghhciacaaDoor
open Eng
abbrev L.T0 : Ty := (.pair (.int .i64) (.pair .str (.pair .str (.pair (.slice .str) (.slice (.pair (.int .i64) (.pair (.slice .str) (.slice .str))))))))
abbrev L.T1 : Ty := (.pair .str (.pair .str (.pair (.slice .str) (.slice (.pair (.int .i64) (.pair (.slice .str) (.slice .str)))))))
abbrev L.T2 : Ty := (.pair .str (.pair (.slice .str) (.slice (.pair (.int .i64) (.pair (.slice .str) (.slice .str))))))
abbrev L.T3 : Ty := (.pair (.slice .str) (.slice (.pair (.int .i64) (.pair (.slice .str) (.slice .str)))))
abbrev L.T4 : Ty := (.slice (.pair (.int .i64) (.pair (.slice .str) (.slice .str))))
abbrev L.T5 : Ty := (.pair (.int .i64) (.pair (.slice .str) (.slice .str)))
abbrev L.T6 : Type := List (Int × ((List ByteArray) × (List ByteArray)))
abbrev L.T7 : Ty := (.pair (.slice .str) (.slice .str))
def L.str1 : ByteArray := ⟨List.toArray []⟩
def L.str2 : ByteArray := ⟨List.toArray [97]⟩
def L.str3 : ByteArray := ⟨List.toArray [98]⟩
def L.str4 : ByteArray := ⟨List.toArray [120]⟩
def L.str5 : ByteArray := ⟨List.toArray [47]⟩
def L.ΔS : CtxO := fun g => if g = 54 then some ([.sl (.pair .str (.slice .str)), .any, .any], Ins.delS) else if g = 64 then some ([.sl (.pair .str (.slice .str)), .any, .sl (.pair .str (.slice .str))], Ins.insS) else none
theorem L.ΔS_ok : SoundGO Tryd.prog L.ΔS := by
  intro g x h
  unfold L.ΔS at h
  split at h
  · next e => cases h; subst e; exact Ins.delS_ok
  split at h
  · next e => cases h; subst e; exact Ins.insS_ok
  · cases h
/-- strings.IndexByte -/
def L.Γ_strings_IndexByte : Ctx := ctx0
theorem L.Γ_strings_IndexByte_ok : SoundG Tryd.prog L.Γ_strings_IndexByte := ctx0_ok
def L.Δ_strings_IndexByte : CtxO := L.ΔS
theorem L.Δ_strings_IndexByte_ok : SoundGO Tryd.prog L.Δ_strings_IndexByte := L.ΔS_ok
def L.strings_IndexByte_B (s : ByteArray) (c : Int) (K : Int → Prop) : Prop :=
  K (La.idx_R s c)
structure L.strings_IndexByte (s : ByteArray) (c : Int) (K : Int → Prop) : Prop where
  out : L.strings_IndexByte_B s c K
def L.strings_IndexByte_ss : List Sh := [.str, .int .u8]
def L.strings_IndexByte_G (vs : List V) (K : V → List Ob → Prop) : Prop := L.strings_IndexByte (gS (vs.getD 0 .any)) (gI (vs.getD 1 .any)) (fun r0 => K (.xi r0) [])
def L.strings_IndexByte_S : SemF := fun args K => argF L.strings_IndexByte_ss args fun a => L.strings_IndexByte_G a K
theorem L.strings_IndexByte_ok : SoundFn Tryd.prog 58 L.strings_IndexByte_S := SoundFn.of_imp La.idx_ok fun args K h => argF_mono (fun a h => h.out) h
/-- changeforge/lines.Validate -/
def L.Γ_lines_Validate : Ctx := ctxC L.Γ_strings_IndexByte 58 L.strings_IndexByte_S
theorem L.Γ_lines_Validate_ok : SoundG Tryd.prog L.Γ_lines_Validate := ctxC_ok L.Γ_strings_IndexByte_ok L.strings_IndexByte_ok
def L.Δ_lines_Validate : CtxO := L.Δ_strings_IndexByte
theorem L.Δ_lines_Validate_ok : SoundGO Tryd.prog L.Δ_lines_Validate := L.Δ_strings_IndexByte_ok
def L.lines_Validate_L1_b (v9 : (List ByteArray)) (v10 : Int) (v11 : Int) (self : Int → Prop) (Kx0 : Prop) (Kr : Int → Int → Prop) : Prop :=
  (bif (decide (v11 < v10)) then (inB v11 v9.length) ∧ (bif (decide (((v9.getD v11.toNat ByteArray.empty).size : Int) > 80)) then Kr 2 v11 else L.strings_IndexByte (v9.getD v11.toNat ByteArray.empty) 10 (fun r => (bif (decide (r ≥ 0)) then Kr 5 v11 else self (i64 (v11 + 1))))) else Kx0)
def L.lines_Validate_L1_R (v9 : (List ByteArray)) (v10 : Int) : Nat → Int → (Prop) → (Int → Int → Prop) → Prop
  | 0, _, _, _ => False
  | fu + 1, v11, Kx0, Kr => L.lines_Validate_L1_b v9 v10 v11 (fun v11 => L.lines_Validate_L1_R v9 v10 fu v11 Kx0 Kr) Kx0 Kr
structure L.lines_Validate_L1 (v9 : (List ByteArray)) (v10 : Int) (v11 : Int) (Kx0 : Prop) (Kr : Int → Int → Prop) : Prop where
  out : ∃ fu, L.lines_Validate_L1_R v9 v10 fu v11 Kx0 Kr
def L.lines_Validate_L1_d : LoopD := { base := 1, vecs := [], flds := [], keep := [2, 9, 10, 11], out := [2], rets := [2], rv := [], rbase := 0 }
def L.lines_Validate_L1_ss : List Sh := [.cl 0 0, .ro .str, .int .i64, .int .i64]
def L.lines_Validate_L1_os : List OSh := [.cells [.int .i64, .int .i64]]
def L.lines_Validate_L1_G (vs : List V) (st : List Ob) (K : Ex → St) : Prop := L.lines_Validate_L1 (gR .str (vs.getD 1 .any)) (gI (vs.getD 2 .any)) (gI (vs.getD 3 .any)) (K (.exit 0) (bld [2] [.cl 0 0] 0 28) [.cells [.xi (cI st 0 0), .xi (cI st 0 1)]]) (fun q0_ q1_ => K .ret (bld [2] [.cl 0 0] 0 28) [.cells [.xi q0_, .xi q1_]])
def L.lines_Validate_L1_F (vs : List V) (st : List Ob) (K : Ex → St) : Prop := fitF L.lines_Validate_L1_ss L.lines_Validate_L1_os vs st (L.lines_Validate_L1_G vs st K)
theorem L.lines_Validate_L1_eq (v9 : (List ByteArray)) (v10 : Int) (m0 : Int) (m01 : Int) (K : Ex → St) : ∀ (fu : Nat) (v11 : Int), L.lines_Validate_L1_R v9 v10 fu v11 (K (.exit 0) (bld [2] [.cl 0 0] 0 28) [.cells [.xi m0, .xi m01]]) (fun q0_ q1_ => K .ret (bld [2] [.cl 0 0] 0 28) [.cells [.xi q0_, .xi q1_]]) = iterL (stepL (exec Tryd.prog (CC Tryd.prog L.Γ_lines_Validate L.Δ_lines_Validate) (drawD Tryd.prog L.Γ_lines_Validate L.Δ_lines_Validate) .leaf (sub [true, true, false, true, false, false] (codeOf Tryd.f37))) 1 L.lines_Validate_L1_d K) fu (bld L.lines_Validate_L1_d.keep [.cl 0 0, .ro .str v9, .xi v10, .xi v11] 0 28) [.cells [.xi m0, .xi m01]] := by
  intro fu
  induction fu with
  | zero => intros; rfl
  | succ fu ih =>
    intro v11
    have e : (fun v11 => L.lines_Validate_L1_R v9 v10 fu v11 (K (.exit 0) (bld [2] [.cl 0 0] 0 28) [.cells [.xi m0, .xi m01]]) (fun q0_ q1_ => K .ret (bld [2] [.cl 0 0] 0 28) [.cells [.xi q0_, .xi q1_]])) = fun v11 => iterL (stepL (exec Tryd.prog (CC Tryd.prog L.Γ_lines_Validate L.Δ_lines_Validate) (drawD Tryd.prog L.Γ_lines_Validate L.Δ_lines_Validate) .leaf (sub [true, true, false, true, false, false] (codeOf Tryd.f37))) 1 L.lines_Validate_L1_d K) fu (bld L.lines_Validate_L1_d.keep [.cl 0 0, .ro .str v9, .xi v10, .xi v11] 0 28) [.cells [.xi m0, .xi m01]] := by
      funext v11; exact ih v11
    show L.lines_Validate_L1_b v9 v10 v11 (fun v11 => L.lines_Validate_L1_R v9 v10 fu v11 (K (.exit 0) (bld [2] [.cl 0 0] 0 28) [.cells [.xi m0, .xi m01]]) (fun q0_ q1_ => K .ret (bld [2] [.cl 0 0] 0 28) [.cells [.xi q0_, .xi q1_]])) (K (.exit 0) (bld [2] [.cl 0 0] 0 28) [.cells [.xi m0, .xi m01]]) (fun q0_ q1_ => K .ret (bld [2] [.cl 0 0] 0 28) [.cells [.xi q0_, .xi q1_]]) = _
    rw [e]
    kernel_rfl
theorem L.lines_Validate_L1_imp (vs : List V) (st : List Ob) (K : Ex → St) (h : L.lines_Validate_L1_G vs st K) : ∃ fu, iterL (stepL (exec Tryd.prog (CC Tryd.prog L.Γ_lines_Validate L.Δ_lines_Validate) (drawD Tryd.prog L.Γ_lines_Validate L.Δ_lines_Validate) .leaf (sub [true, true, false, true, false, false] (codeOf Tryd.f37))) 1 L.lines_Validate_L1_d K) fu (bld L.lines_Validate_L1_d.keep (mkL L.lines_Validate_L1_ss 0 vs) 0 28) (mkOs L.lines_Validate_L1_os 0 st) :=
  exMap (fun fu h => @Eq.mp _ _ (Eq.trans (L.lines_Validate_L1_eq (gR .str (vs.getD 1 .any)) (gI (vs.getD 2 .any)) (cI st 0 0) (cI st 0 1) K fu (gI (vs.getD 3 .any))) (by kernel_rfl)) h) (L.lines_Validate_L1.out h)
theorem L.lines_Validate_L1_ok : AnnOk Tryd.prog (CC Tryd.prog L.Γ_lines_Validate L.Δ_lines_Validate) (drawD Tryd.prog L.Γ_lines_Validate L.Δ_lines_Validate) 0 (.lift L.lines_Validate_L1_d 28 L.lines_Validate_L1_F) (.loop (sub [true, true, false, true, false, false] (codeOf Tryd.f37))) :=
  lift_ok (an := .leaf) (ss := L.lines_Validate_L1_ss) (os := L.lines_Validate_L1_os) (G := L.lines_Validate_L1_G) rfl (Nat.le_of_ble_eq_true rfl) (annOk_leaf _) (L.lines_Validate_L1_imp)
def L.lines_Validate_B (lines : (List ByteArray)) (K : Int → Int → Prop) : Prop :=
  (bif (decide ((lines.length : Int) > 120)) then K 2 (-1) else L.lines_Validate_L1 lines (lines.length : Int) 0 (K 0 0) (fun m m1 => K m m1))
structure L.lines_Validate (lines : (List ByteArray)) (K : Int → Int → Prop) : Prop where
  out : L.lines_Validate_B lines K
def L.lines_Validate_ss : List Sh := [.ro .str]
def L.lines_Validate_G (vs : List V) (K : V → List Ob → Prop) : Prop := L.lines_Validate (gR .str (vs.getD 0 .any)) (fun r0 r1 => K (.agg [.xi r0, .xi r1]) [])
def L.lines_Validate_S : SemF := fun args K => argF L.lines_Validate_ss args fun a => L.lines_Validate_G a K
theorem L.lines_Validate_eq (lines : (List ByteArray)) (K : V → List Ob → Prop) : run Tryd.prog L.Γ_lines_Validate L.Δ_lines_Validate (.node .leaf (.node .leaf (.node (.node .leaf (.lift L.lines_Validate_L1_d 28 L.lines_Validate_L1_F)) .leaf))) .any Tryd.f37 [.ro .str lines] K = L.lines_Validate_B lines (fun r0 r1 => K (.agg [.xi r0, .xi r1]) []) := by
  kernel_rfl
theorem L.lines_Validate_imp (vs : List V) (K : V → List Ob → Prop) : Imp (L.lines_Validate_G vs K) (run Tryd.prog L.Γ_lines_Validate L.Δ_lines_Validate (.node .leaf (.node .leaf (.node (.node .leaf (.lift L.lines_Validate_L1_d 28 L.lines_Validate_L1_F)) .leaf))) .any Tryd.f37 (mkL L.lines_Validate_ss 0 vs) K) :=
  Imp.of (Eq.trans (b := run Tryd.prog L.Γ_lines_Validate L.Δ_lines_Validate (.node .leaf (.node .leaf (.node (.node .leaf (.lift L.lines_Validate_L1_d 28 L.lines_Validate_L1_F)) .leaf))) .any Tryd.f37 [.ro .str (gR .str (vs.getD 0 .any))] K) (by kernel_rfl) (L.lines_Validate_eq (gR .str (vs.getD 0 .any)) K)) fun h => (L.lines_Validate.out h)
theorem L.lines_Validate_ok : SoundFn Tryd.prog 37 L.lines_Validate_S :=
  fn_ok (sem := run Tryd.prog L.Γ_lines_Validate L.Δ_lines_Validate (.node .leaf (.node .leaf (.node (.node .leaf (.lift L.lines_Validate_L1_d 28 L.lines_Validate_L1_F)) .leaf))) .any Tryd.f37) (ss := L.lines_Validate_ss) (G := L.lines_Validate_G) (run_ok L.Γ_lines_Validate_ok L.Δ_lines_Validate_ok Tryd.func37 (ann := (.node .leaf (.node .leaf (.node (.node .leaf (.lift L.lines_Validate_L1_d 28 L.lines_Validate_L1_F)) .leaf)))) ⟨(annOk_leaf _), ⟨(annOk_leaf _), ⟨⟨(annOk_leaf _), L.lines_Validate_L1_ok⟩, (annOk_leaf _)⟩⟩⟩) L.lines_Validate_imp
/-- changeforge/textpatch.End -/
def L.Γ_textpatch_End : Ctx := ctxC L.Γ_lines_Validate 37 L.lines_Validate_S
theorem L.Γ_textpatch_End_ok : SoundG Tryd.prog L.Γ_textpatch_End := ctxC_ok L.Γ_lines_Validate_ok L.lines_Validate_ok
def L.Δ_textpatch_End : CtxO := L.Δ_lines_Validate
theorem L.Δ_textpatch_End_ok : SoundGO Tryd.prog L.Δ_textpatch_End := L.Δ_lines_Validate_ok
def L.textpatch_End_B (h_At : Int) (h_Old : (List ByteArray)) (h_New : (List ByteArray)) (K : Int → Prop) : Prop :=
  K (i64 (h_At + (h_Old.length : Int)))
structure L.textpatch_End (h_At : Int) (h_Old : (List ByteArray)) (h_New : (List ByteArray)) (K : Int → Prop) : Prop where
  out : L.textpatch_End_B h_At h_Old h_New K
def L.textpatch_End_ss : List Sh := [.agg [.int .i64, .ro .str, .ro .str]]
def L.textpatch_End_G (vs : List V) (K : V → List Ob → Prop) : Prop := L.textpatch_End (gI ((gC (vs.getD 0 .any)).getD 0 .any)) (gR .str ((gC (vs.getD 0 .any)).getD 1 .any)) (gR .str ((gC (vs.getD 0 .any)).getD 2 .any)) (fun r0 => K (.xi r0) [])
def L.textpatch_End_S : SemF := fun args K => argF L.textpatch_End_ss args fun a => L.textpatch_End_G a K
theorem L.textpatch_End_eq (h_At : Int) (h_Old : (List ByteArray)) (h_New : (List ByteArray)) (K : V → List Ob → Prop) : run Tryd.prog L.Γ_textpatch_End L.Δ_textpatch_End .leaf .any Tryd.f39 [.agg [.xi h_At, .ro .str h_Old, .ro .str h_New]] K = L.textpatch_End_B h_At h_Old h_New (fun r0 => K (.xi r0) []) := by
  kernel_rfl
theorem L.textpatch_End_imp (vs : List V) (K : V → List Ob → Prop) : Imp (L.textpatch_End_G vs K) (run Tryd.prog L.Γ_textpatch_End L.Δ_textpatch_End .leaf .any Tryd.f39 (mkL L.textpatch_End_ss 0 vs) K) :=
  Imp.of (Eq.trans (b := run Tryd.prog L.Γ_textpatch_End L.Δ_textpatch_End .leaf .any Tryd.f39 [.agg [.xi (gI ((gC (vs.getD 0 .any)).getD 0 .any)), .ro .str (gR .str ((gC (vs.getD 0 .any)).getD 1 .any)), .ro .str (gR .str ((gC (vs.getD 0 .any)).getD 2 .any))]] K) (by kernel_rfl) (L.textpatch_End_eq (gI ((gC (vs.getD 0 .any)).getD 0 .any)) (gR .str ((gC (vs.getD 0 .any)).getD 1 .any)) (gR .str ((gC (vs.getD 0 .any)).getD 2 .any)) K)) fun h => (L.textpatch_End.out h)
theorem L.textpatch_End_ok : SoundFn Tryd.prog 39 L.textpatch_End_S :=
  fn_ok (sem := run Tryd.prog L.Γ_textpatch_End L.Δ_textpatch_End .leaf .any Tryd.f39) (ss := L.textpatch_End_ss) (G := L.textpatch_End_G) (run_ok L.Γ_textpatch_End_ok L.Δ_textpatch_End_ok Tryd.func39 (ann := .leaf) (annOk_leaf _)) L.textpatch_End_imp
/-- changeforge/textpatch.hunk -/
def L.Γ_textpatch_hunk : Ctx := ctxC L.Γ_textpatch_End 39 L.textpatch_End_S
theorem L.Γ_textpatch_hunk_ok : SoundG Tryd.prog L.Γ_textpatch_hunk := ctxC_ok L.Γ_textpatch_End_ok L.textpatch_End_ok
def L.Δ_textpatch_hunk : CtxO := L.Δ_textpatch_End
theorem L.Δ_textpatch_hunk_ok : SoundGO Tryd.prog L.Δ_textpatch_hunk := L.Δ_textpatch_End_ok
def L.textpatch_hunk_L1_b (v20 : (List ByteArray)) (v201 : (List ByteArray)) (v21 : Int) (self : Int → Prop) (Kx0 : Prop) (Kr : Int → Prop) : Prop :=
  (bif (decide (v21 < 2)) then (inB v21 2) ∧ L.lines_Validate (([v20, v201] : List (List ByteArray)).getD v21.toNat []) (fun rCode rIndex => (bif (!((rCode == 0) && ((rIndex == 0) && true))) then Kr rCode else self (i64 (v21 + 1)))) else Kx0)
def L.textpatch_hunk_L1_R (v20 : (List ByteArray)) (v201 : (List ByteArray)) : Nat → Int → (Prop) → (Int → Prop) → Prop
  | 0, _, _, _ => False
  | fu + 1, v21, Kx0, Kr => L.textpatch_hunk_L1_b v20 v201 v21 (fun v21 => L.textpatch_hunk_L1_R v20 v201 fu v21 Kx0 Kr) Kx0 Kr
structure L.textpatch_hunk_L1 (v20 : (List ByteArray)) (v201 : (List ByteArray)) (v21 : Int) (Kx0 : Prop) (Kr : Int → Prop) : Prop where
  out : ∃ fu, L.textpatch_hunk_L1_R v20 v201 fu v21 Kx0 Kr
def L.textpatch_hunk_L1_d : LoopD := { base := 1, vecs := [], flds := [], keep := [1, 2, 20, 21], out := [1, 2], rets := [4], rv := [], rbase := 0 }
def L.textpatch_hunk_L1_ss : List Sh := [.int .i64, .cl 0 0, .agg [.ro .str, .ro .str], .int .i64]
def L.textpatch_hunk_L1_os : List OSh := [.cells [.int .i64, .ro .str, .ro .str]]
def L.textpatch_hunk_L1_G (vs : List V) (st : List Ob) (K : Ex → St) : Prop := L.textpatch_hunk_L1 (gR .str ((gC (vs.getD 2 .any)).getD 0 .any)) (gR .str ((gC (vs.getD 2 .any)).getD 1 .any)) (gI (vs.getD 3 .any)) (K (.exit 0) (bld [1, 2] [.xi (gI (vs.getD 0 .any)), .cl 0 0] 0 49) [.cells [.xi (cI st 0 0), .ro .str (gR .str ((oC (st.getD 0 .dead)).getD 1 .any)), .ro .str (gR .str ((oC (st.getD 0 .dead)).getD 2 .any))]]) (fun q0_ => K .ret (bld [4] [.xi q0_] 0 49) [])
def L.textpatch_hunk_L1_F (vs : List V) (st : List Ob) (K : Ex → St) : Prop := fitF L.textpatch_hunk_L1_ss L.textpatch_hunk_L1_os vs st (L.textpatch_hunk_L1_G vs st K)
theorem L.textpatch_hunk_L1_eq (end_1 : Int) (v20 : (List ByteArray)) (v201 : (List ByteArray)) (h : Int) (h1 : (List ByteArray)) (h2 : (List ByteArray)) (K : Ex → St) : ∀ (fu : Nat) (v21 : Int), L.textpatch_hunk_L1_R v20 v201 fu v21 (K (.exit 0) (bld [1, 2] [.xi end_1, .cl 0 0] 0 49) [.cells [.xi h, .ro .str h1, .ro .str h2]]) (fun q0_ => K .ret (bld [4] [.xi q0_] 0 49) []) = iterL (stepL (exec Tryd.prog (CC Tryd.prog L.Γ_textpatch_hunk L.Δ_textpatch_hunk) (drawD Tryd.prog L.Γ_textpatch_hunk L.Δ_textpatch_hunk) .leaf (sub [true, true, false, true, false, false] (codeOf Tryd.f38))) 1 L.textpatch_hunk_L1_d K) fu (bld L.textpatch_hunk_L1_d.keep [.xi end_1, .cl 0 0, .agg [.ro .str v20, .ro .str v201], .xi v21] 0 49) [.cells [.xi h, .ro .str h1, .ro .str h2]] := by
  intro fu
  induction fu with
  | zero => intros; rfl
  | succ fu ih =>
    intro v21
    have e : (fun v21 => L.textpatch_hunk_L1_R v20 v201 fu v21 (K (.exit 0) (bld [1, 2] [.xi end_1, .cl 0 0] 0 49) [.cells [.xi h, .ro .str h1, .ro .str h2]]) (fun q0_ => K .ret (bld [4] [.xi q0_] 0 49) [])) = fun v21 => iterL (stepL (exec Tryd.prog (CC Tryd.prog L.Γ_textpatch_hunk L.Δ_textpatch_hunk) (drawD Tryd.prog L.Γ_textpatch_hunk L.Δ_textpatch_hunk) .leaf (sub [true, true, false, true, false, false] (codeOf Tryd.f38))) 1 L.textpatch_hunk_L1_d K) fu (bld L.textpatch_hunk_L1_d.keep [.xi end_1, .cl 0 0, .agg [.ro .str v20, .ro .str v201], .xi v21] 0 49) [.cells [.xi h, .ro .str h1, .ro .str h2]] := by
      funext v21; exact ih v21
    show L.textpatch_hunk_L1_b v20 v201 v21 (fun v21 => L.textpatch_hunk_L1_R v20 v201 fu v21 (K (.exit 0) (bld [1, 2] [.xi end_1, .cl 0 0] 0 49) [.cells [.xi h, .ro .str h1, .ro .str h2]]) (fun q0_ => K .ret (bld [4] [.xi q0_] 0 49) [])) (K (.exit 0) (bld [1, 2] [.xi end_1, .cl 0 0] 0 49) [.cells [.xi h, .ro .str h1, .ro .str h2]]) (fun q0_ => K .ret (bld [4] [.xi q0_] 0 49) []) = _
    rw [e]
    kernel_rfl
theorem L.textpatch_hunk_L1_imp (vs : List V) (st : List Ob) (K : Ex → St) (h : L.textpatch_hunk_L1_G vs st K) : ∃ fu, iterL (stepL (exec Tryd.prog (CC Tryd.prog L.Γ_textpatch_hunk L.Δ_textpatch_hunk) (drawD Tryd.prog L.Γ_textpatch_hunk L.Δ_textpatch_hunk) .leaf (sub [true, true, false, true, false, false] (codeOf Tryd.f38))) 1 L.textpatch_hunk_L1_d K) fu (bld L.textpatch_hunk_L1_d.keep (mkL L.textpatch_hunk_L1_ss 0 vs) 0 49) (mkOs L.textpatch_hunk_L1_os 0 st) :=
  exMap (fun fu h => @Eq.mp _ _ (Eq.trans (L.textpatch_hunk_L1_eq (gI (vs.getD 0 .any)) (gR .str ((gC (vs.getD 2 .any)).getD 0 .any)) (gR .str ((gC (vs.getD 2 .any)).getD 1 .any)) (cI st 0 0) (gR .str ((oC (st.getD 0 .dead)).getD 1 .any)) (gR .str ((oC (st.getD 0 .dead)).getD 2 .any)) K fu (gI (vs.getD 3 .any))) (by kernel_rfl)) h) (L.textpatch_hunk_L1.out h)
theorem L.textpatch_hunk_L1_ok : AnnOk Tryd.prog (CC Tryd.prog L.Γ_textpatch_hunk L.Δ_textpatch_hunk) (drawD Tryd.prog L.Γ_textpatch_hunk L.Δ_textpatch_hunk) 0 (.lift L.textpatch_hunk_L1_d 49 L.textpatch_hunk_L1_F) (.loop (sub [true, true, false, true, false, false] (codeOf Tryd.f38))) :=
  lift_ok (an := .leaf) (ss := L.textpatch_hunk_L1_ss) (os := L.textpatch_hunk_L1_os) (G := L.textpatch_hunk_L1_G) rfl (Nat.le_of_ble_eq_true rfl) (annOk_leaf _) (L.textpatch_hunk_L1_imp)
def L.textpatch_hunk_B (h_At : Int) (h_Old : (List ByteArray)) (h_New : (List ByteArray)) (end_ : Int) (K : Int → Prop) : Prop :=
  (bif (bif (decide (h_At < 0)) then true else (decide (h_At > 120))) then K 3 else L.textpatch_hunk_L1 h_Old h_New 0 ((bif (bif ((i64 ((h_Old.length : Int) + (h_New.length : Int))) == 0) then true else (decide (h_At ≤ end_))) then K 5 else L.textpatch_End h_At h_Old h_New (fun r => (bif (decide (r > 120)) then K 3 else K 0)))) (fun r1 => K r1))
structure L.textpatch_hunk (h_At : Int) (h_Old : (List ByteArray)) (h_New : (List ByteArray)) (end_ : Int) (K : Int → Prop) : Prop where
  out : L.textpatch_hunk_B h_At h_Old h_New end_ K
def L.textpatch_hunk_ss : List Sh := [.agg [.int .i64, .ro .str, .ro .str], .int .i64]
def L.textpatch_hunk_G (vs : List V) (K : V → List Ob → Prop) : Prop := L.textpatch_hunk (gI ((gC (vs.getD 0 .any)).getD 0 .any)) (gR .str ((gC (vs.getD 0 .any)).getD 1 .any)) (gR .str ((gC (vs.getD 0 .any)).getD 2 .any)) (gI (vs.getD 1 .any)) (fun r0 => K (.xi r0) [])
def L.textpatch_hunk_S : SemF := fun args K => argF L.textpatch_hunk_ss args fun a => L.textpatch_hunk_G a K
theorem L.textpatch_hunk_eq (h_At : Int) (h_Old : (List ByteArray)) (h_New : (List ByteArray)) (end_ : Int) (K : V → List Ob → Prop) : run Tryd.prog L.Γ_textpatch_hunk L.Δ_textpatch_hunk (.node .leaf (.node .leaf (.node (.node .leaf (.lift L.textpatch_hunk_L1_d 49 L.textpatch_hunk_L1_F)) .leaf))) .any Tryd.f38 [.agg [.xi h_At, .ro .str h_Old, .ro .str h_New], .xi end_] K = L.textpatch_hunk_B h_At h_Old h_New end_ (fun r0 => K (.xi r0) []) := by
  kernel_rfl
theorem L.textpatch_hunk_imp (vs : List V) (K : V → List Ob → Prop) : Imp (L.textpatch_hunk_G vs K) (run Tryd.prog L.Γ_textpatch_hunk L.Δ_textpatch_hunk (.node .leaf (.node .leaf (.node (.node .leaf (.lift L.textpatch_hunk_L1_d 49 L.textpatch_hunk_L1_F)) .leaf))) .any Tryd.f38 (mkL L.textpatch_hunk_ss 0 vs) K) :=
  Imp.of (Eq.trans (b := run Tryd.prog L.Γ_textpatch_hunk L.Δ_textpatch_hunk (.node .leaf (.node .leaf (.node (.node .leaf (.lift L.textpatch_hunk_L1_d 49 L.textpatch_hunk_L1_F)) .leaf))) .any Tryd.f38 [.agg [.xi (gI ((gC (vs.getD 0 .any)).getD 0 .any)), .ro .str (gR .str ((gC (vs.getD 0 .any)).getD 1 .any)), .ro .str (gR .str ((gC (vs.getD 0 .any)).getD 2 .any))], .xi (gI (vs.getD 1 .any))] K) (by kernel_rfl) (L.textpatch_hunk_eq (gI ((gC (vs.getD 0 .any)).getD 0 .any)) (gR .str ((gC (vs.getD 0 .any)).getD 1 .any)) (gR .str ((gC (vs.getD 0 .any)).getD 2 .any)) (gI (vs.getD 1 .any)) K)) fun h => (L.textpatch_hunk.out h)
theorem L.textpatch_hunk_ok : SoundFn Tryd.prog 38 L.textpatch_hunk_S :=
  fn_ok (sem := run Tryd.prog L.Γ_textpatch_hunk L.Δ_textpatch_hunk (.node .leaf (.node .leaf (.node (.node .leaf (.lift L.textpatch_hunk_L1_d 49 L.textpatch_hunk_L1_F)) .leaf))) .any Tryd.f38) (ss := L.textpatch_hunk_ss) (G := L.textpatch_hunk_G) (run_ok L.Γ_textpatch_hunk_ok L.Δ_textpatch_hunk_ok Tryd.func38 (ann := (.node .leaf (.node .leaf (.node (.node .leaf (.lift L.textpatch_hunk_L1_d 49 L.textpatch_hunk_L1_F)) .leaf)))) ⟨(annOk_leaf _), ⟨(annOk_leaf _), ⟨⟨(annOk_leaf _), L.textpatch_hunk_L1_ok⟩, (annOk_leaf _)⟩⟩⟩) L.textpatch_hunk_imp
/-- changeforge/textpatch.Validate -/
def L.Γ_textpatch_Validate : Ctx := ctxC L.Γ_textpatch_hunk 38 L.textpatch_hunk_S
theorem L.Γ_textpatch_Validate_ok : SoundG Tryd.prog L.Γ_textpatch_Validate := ctxC_ok L.Γ_textpatch_hunk_ok L.textpatch_hunk_ok
def L.Δ_textpatch_Validate : CtxO := L.Δ_textpatch_hunk
theorem L.Δ_textpatch_Validate_ok : SoundGO Tryd.prog L.Δ_textpatch_Validate := L.Δ_textpatch_hunk_ok
def L.textpatch_Validate_L1_b (v13 : L.T6) (v14 : Int) (end_ : Int) (v15 : Int) (self : Int → Int → Prop) (Kx0 : Prop) (Kr : Int → Int → Prop) : Prop :=
  (bif (decide (v15 < v14)) then (inB v15 v13.length) ∧ L.textpatch_hunk ((v13.getD v15.toNat (0, ([], []))).1) ((v13.getD v15.toNat (0, ([], []))).2.1) ((v13.getD v15.toNat (0, ([], []))).2.2) end_ (fun r => (bif (r != 0) then Kr r v15 else L.textpatch_End ((v13.getD v15.toNat (0, ([], []))).1) ((v13.getD v15.toNat (0, ([], []))).2.1) ((v13.getD v15.toNat (0, ([], []))).2.2) (fun r1 => self r1 (i64 (v15 + 1))))) else Kx0)
def L.textpatch_Validate_L1_R (v13 : L.T6) (v14 : Int) : Nat → Int → Int → (Prop) → (Int → Int → Prop) → Prop
  | 0, _, _, _, _ => False
  | fu + 1, end_, v15, Kx0, Kr => L.textpatch_Validate_L1_b v13 v14 end_ v15 (fun end_ v15 => L.textpatch_Validate_L1_R v13 v14 fu end_ v15 Kx0 Kr) Kx0 Kr
structure L.textpatch_Validate_L1 (v13 : L.T6) (v14 : Int) (end_ : Int) (v15 : Int) (Kx0 : Prop) (Kr : Int → Int → Prop) : Prop where
  out : ∃ fu, L.textpatch_Validate_L1_R v13 v14 fu end_ v15 Kx0 Kr
def L.textpatch_Validate_L1_d : LoopD := { base := 2, vecs := [], flds := [], keep := [2, 3, 13, 14, 15], out := [2], rets := [2], rv := [], rbase := 0 }
def L.textpatch_Validate_L1_ss : List Sh := [.cl 1 0, .int .i64, .ro L.T5, .int .i64, .int .i64]
def L.textpatch_Validate_L1_os : List OSh := [.cells [.ro L.T5], .cells [.int .i64, .int .i64]]
def L.textpatch_Validate_L1_G (vs : List V) (st : List Ob) (K : Ex → St) : Prop := L.textpatch_Validate_L1 (gR L.T5 (vs.getD 2 .any)) (gI (vs.getD 3 .any)) (gI (vs.getD 1 .any)) (gI (vs.getD 4 .any)) (K (.exit 0) (bld [2] [.cl 1 0] 0 32) [.cells [.ro L.T5 (gR L.T5 ((oC (st.getD 0 .dead)).getD 0 .any))], .cells [.xi (cI st 1 0), .xi (cI st 1 1)]]) (fun q0_ q1_ => K .ret (bld [2] [.cl 0 0] 0 32) [.cells [.xi q0_, .xi q1_]])
def L.textpatch_Validate_L1_F (vs : List V) (st : List Ob) (K : Ex → St) : Prop := fitF L.textpatch_Validate_L1_ss L.textpatch_Validate_L1_os vs st (L.textpatch_Validate_L1_G vs st K)
theorem L.textpatch_Validate_L1_eq (v13 : L.T6) (v14 : Int) (m0 : L.T6) (m1 : Int) (m11 : Int) (K : Ex → St) : ∀ (fu : Nat) (end_ : Int) (v15 : Int), L.textpatch_Validate_L1_R v13 v14 fu end_ v15 (K (.exit 0) (bld [2] [.cl 1 0] 0 32) [.cells [.ro L.T5 m0], .cells [.xi m1, .xi m11]]) (fun q0_ q1_ => K .ret (bld [2] [.cl 0 0] 0 32) [.cells [.xi q0_, .xi q1_]]) = iterL (stepL (exec Tryd.prog (CC Tryd.prog L.Γ_textpatch_Validate L.Δ_textpatch_Validate) (drawD Tryd.prog L.Γ_textpatch_Validate L.Δ_textpatch_Validate) .leaf (sub [true, true, true, false, true, false, false] (codeOf Tryd.f17))) 2 L.textpatch_Validate_L1_d K) fu (bld L.textpatch_Validate_L1_d.keep [.cl 1 0, .xi end_, .ro L.T5 v13, .xi v14, .xi v15] 0 32) [.cells [.ro L.T5 m0], .cells [.xi m1, .xi m11]] := by
  intro fu
  induction fu with
  | zero => intros; rfl
  | succ fu ih =>
    intro end_ v15
    have e : (fun end_ v15 => L.textpatch_Validate_L1_R v13 v14 fu end_ v15 (K (.exit 0) (bld [2] [.cl 1 0] 0 32) [.cells [.ro L.T5 m0], .cells [.xi m1, .xi m11]]) (fun q0_ q1_ => K .ret (bld [2] [.cl 0 0] 0 32) [.cells [.xi q0_, .xi q1_]])) = fun end_ v15 => iterL (stepL (exec Tryd.prog (CC Tryd.prog L.Γ_textpatch_Validate L.Δ_textpatch_Validate) (drawD Tryd.prog L.Γ_textpatch_Validate L.Δ_textpatch_Validate) .leaf (sub [true, true, true, false, true, false, false] (codeOf Tryd.f17))) 2 L.textpatch_Validate_L1_d K) fu (bld L.textpatch_Validate_L1_d.keep [.cl 1 0, .xi end_, .ro L.T5 v13, .xi v14, .xi v15] 0 32) [.cells [.ro L.T5 m0], .cells [.xi m1, .xi m11]] := by
      funext end_ v15; exact ih end_ v15
    show L.textpatch_Validate_L1_b v13 v14 end_ v15 (fun end_ v15 => L.textpatch_Validate_L1_R v13 v14 fu end_ v15 (K (.exit 0) (bld [2] [.cl 1 0] 0 32) [.cells [.ro L.T5 m0], .cells [.xi m1, .xi m11]]) (fun q0_ q1_ => K .ret (bld [2] [.cl 0 0] 0 32) [.cells [.xi q0_, .xi q1_]])) (K (.exit 0) (bld [2] [.cl 1 0] 0 32) [.cells [.ro L.T5 m0], .cells [.xi m1, .xi m11]]) (fun q0_ q1_ => K .ret (bld [2] [.cl 0 0] 0 32) [.cells [.xi q0_, .xi q1_]]) = _
    rw [e]
    kernel_rfl
theorem L.textpatch_Validate_L1_imp (vs : List V) (st : List Ob) (K : Ex → St) (h : L.textpatch_Validate_L1_G vs st K) : ∃ fu, iterL (stepL (exec Tryd.prog (CC Tryd.prog L.Γ_textpatch_Validate L.Δ_textpatch_Validate) (drawD Tryd.prog L.Γ_textpatch_Validate L.Δ_textpatch_Validate) .leaf (sub [true, true, true, false, true, false, false] (codeOf Tryd.f17))) 2 L.textpatch_Validate_L1_d K) fu (bld L.textpatch_Validate_L1_d.keep (mkL L.textpatch_Validate_L1_ss 0 vs) 0 32) (mkOs L.textpatch_Validate_L1_os 0 st) :=
  exMap (fun fu h => @Eq.mp _ _ (Eq.trans (L.textpatch_Validate_L1_eq (gR L.T5 (vs.getD 2 .any)) (gI (vs.getD 3 .any)) (gR L.T5 ((oC (st.getD 0 .dead)).getD 0 .any)) (cI st 1 0) (cI st 1 1) K fu (gI (vs.getD 1 .any)) (gI (vs.getD 4 .any))) (by kernel_rfl)) h) (L.textpatch_Validate_L1.out h)
theorem L.textpatch_Validate_L1_ok : AnnOk Tryd.prog (CC Tryd.prog L.Γ_textpatch_Validate L.Δ_textpatch_Validate) (drawD Tryd.prog L.Γ_textpatch_Validate L.Δ_textpatch_Validate) 0 (.lift L.textpatch_Validate_L1_d 32 L.textpatch_Validate_L1_F) (.loop (sub [true, true, true, false, true, false, false] (codeOf Tryd.f17))) :=
  lift_ok (an := .leaf) (ss := L.textpatch_Validate_L1_ss) (os := L.textpatch_Validate_L1_os) (G := L.textpatch_Validate_L1_G) rfl (Nat.le_of_ble_eq_true rfl) (annOk_leaf _) (L.textpatch_Validate_L1_imp)
def L.textpatch_Validate_B (p_Hunks : L.T6) (K : Int → Int → Prop) : Prop :=
  (bif (decide ((p_Hunks.length : Int) > 130)) then K 2 (-1) else L.textpatch_Validate_L1 p_Hunks (p_Hunks.length : Int) (-1) 0 (K 0 0) (fun m r => K m r))
structure L.textpatch_Validate (p_Hunks : L.T6) (K : Int → Int → Prop) : Prop where
  out : L.textpatch_Validate_B p_Hunks K
def L.textpatch_Validate_ss : List Sh := [.agg [.ro L.T5]]
def L.textpatch_Validate_G (vs : List V) (K : V → List Ob → Prop) : Prop := L.textpatch_Validate (gR L.T5 ((gC (vs.getD 0 .any)).getD 0 .any)) (fun r0 r1 => K (.agg [.xi r0, .xi r1]) [])
def L.textpatch_Validate_S : SemF := fun args K => argF L.textpatch_Validate_ss args fun a => L.textpatch_Validate_G a K
theorem L.textpatch_Validate_eq (p_Hunks : L.T6) (K : V → List Ob → Prop) : run Tryd.prog L.Γ_textpatch_Validate L.Δ_textpatch_Validate (.node .leaf (.node .leaf (.node .leaf (.node (.node .leaf (.lift L.textpatch_Validate_L1_d 32 L.textpatch_Validate_L1_F)) .leaf)))) .any Tryd.f17 [.agg [.ro L.T5 p_Hunks]] K = L.textpatch_Validate_B p_Hunks (fun r0 r1 => K (.agg [.xi r0, .xi r1]) []) := by
  kernel_rfl
theorem L.textpatch_Validate_imp (vs : List V) (K : V → List Ob → Prop) : Imp (L.textpatch_Validate_G vs K) (run Tryd.prog L.Γ_textpatch_Validate L.Δ_textpatch_Validate (.node .leaf (.node .leaf (.node .leaf (.node (.node .leaf (.lift L.textpatch_Validate_L1_d 32 L.textpatch_Validate_L1_F)) .leaf)))) .any Tryd.f17 (mkL L.textpatch_Validate_ss 0 vs) K) :=
  Imp.of (Eq.trans (b := run Tryd.prog L.Γ_textpatch_Validate L.Δ_textpatch_Validate (.node .leaf (.node .leaf (.node .leaf (.node (.node .leaf (.lift L.textpatch_Validate_L1_d 32 L.textpatch_Validate_L1_F)) .leaf)))) .any Tryd.f17 [.agg [.ro L.T5 (gR L.T5 ((gC (vs.getD 0 .any)).getD 0 .any))]] K) (by kernel_rfl) (L.textpatch_Validate_eq (gR L.T5 ((gC (vs.getD 0 .any)).getD 0 .any)) K)) fun h => (L.textpatch_Validate.out h)
theorem L.textpatch_Validate_ok : SoundFn Tryd.prog 17 L.textpatch_Validate_S :=
  fn_ok (sem := run Tryd.prog L.Γ_textpatch_Validate L.Δ_textpatch_Validate (.node .leaf (.node .leaf (.node .leaf (.node (.node .leaf (.lift L.textpatch_Validate_L1_d 32 L.textpatch_Validate_L1_F)) .leaf)))) .any Tryd.f17) (ss := L.textpatch_Validate_ss) (G := L.textpatch_Validate_G) (run_ok L.Γ_textpatch_Validate_ok L.Δ_textpatch_Validate_ok Tryd.func17 (ann := (.node .leaf (.node .leaf (.node .leaf (.node (.node .leaf (.lift L.textpatch_Validate_L1_d 32 L.textpatch_Validate_L1_F)) .leaf))))) ⟨(annOk_leaf _), ⟨(annOk_leaf _), ⟨(annOk_leaf _), ⟨⟨(annOk_leaf _), L.textpatch_Validate_L1_ok⟩, (annOk_leaf _)⟩⟩⟩⟩) L.textpatch_Validate_imp
/-- changeforge/lines.Second -/
def L.Γ_lines_Second : Ctx := ctxC L.Γ_textpatch_Validate 17 L.textpatch_Validate_S
theorem L.Γ_lines_Second_ok : SoundG Tryd.prog L.Γ_lines_Second := ctxC_ok L.Γ_textpatch_Validate_ok L.textpatch_Validate_ok
def L.Δ_lines_Second : CtxO := L.Δ_textpatch_Validate
theorem L.Δ_lines_Second_ok : SoundGO Tryd.prog L.Δ_lines_Second := L.Δ_textpatch_Validate_ok
def L.lines_Second_B (b : (List ByteArray)) (index : Int) (K : Int → Int → Prop) : Prop :=
  L.lines_Validate b (fun rCode rIndex => (bif (!((rCode == 0) && ((rIndex == 0) && true))) then K rCode index else K 0 0))
structure L.lines_Second (b : (List ByteArray)) (index : Int) (K : Int → Int → Prop) : Prop where
  out : L.lines_Second_B b index K
def L.lines_Second_ss : List Sh := [.ro .str, .int .i64]
def L.lines_Second_G (vs : List V) (K : V → List Ob → Prop) : Prop := L.lines_Second (gR .str (vs.getD 0 .any)) (gI (vs.getD 1 .any)) (fun r0 r1 => K (.agg [.xi r0, .xi r1]) [])
def L.lines_Second_S : SemF := fun args K => argF L.lines_Second_ss args fun a => L.lines_Second_G a K
theorem L.lines_Second_eq (b : (List ByteArray)) (index : Int) (K : V → List Ob → Prop) : run Tryd.prog L.Γ_lines_Second L.Δ_lines_Second .leaf .any Tryd.f16 [.ro .str b, .xi index] K = L.lines_Second_B b index (fun r0 r1 => K (.agg [.xi r0, .xi r1]) []) := by
  kernel_rfl
theorem L.lines_Second_imp (vs : List V) (K : V → List Ob → Prop) : Imp (L.lines_Second_G vs K) (run Tryd.prog L.Γ_lines_Second L.Δ_lines_Second .leaf .any Tryd.f16 (mkL L.lines_Second_ss 0 vs) K) :=
  Imp.of (Eq.trans (b := run Tryd.prog L.Γ_lines_Second L.Δ_lines_Second .leaf .any Tryd.f16 [.ro .str (gR .str (vs.getD 0 .any)), .xi (gI (vs.getD 1 .any))] K) (by kernel_rfl) (L.lines_Second_eq (gR .str (vs.getD 0 .any)) (gI (vs.getD 1 .any)) K)) fun h => (L.lines_Second.out h)
theorem L.lines_Second_ok : SoundFn Tryd.prog 16 L.lines_Second_S :=
  fn_ok (sem := run Tryd.prog L.Γ_lines_Second L.Δ_lines_Second .leaf .any Tryd.f16) (ss := L.lines_Second_ss) (G := L.lines_Second_G) (run_ok L.Γ_lines_Second_ok L.Δ_lines_Second_ok Tryd.func16 (ann := .leaf) (annOk_leaf _)) L.lines_Second_imp
/-- slices.Equal[[]string,string] -/
def L.Γ_slices_Equal : Ctx := ctxC L.Γ_lines_Second 16 L.lines_Second_S
theorem L.Γ_slices_Equal_ok : SoundG Tryd.prog L.Γ_slices_Equal := ctxC_ok L.Γ_lines_Second_ok L.lines_Second_ok
def L.Δ_slices_Equal : CtxO := L.Δ_lines_Second
theorem L.Δ_slices_Equal_ok : SoundGO Tryd.prog L.Δ_slices_Equal := L.Δ_lines_Second_ok
def L.slices_Equal_L1_b (s11 : (List ByteArray)) (s21 : (List ByteArray)) (v12 : Int) (v13 : Int) (self : Int → Prop) (Kx0 : Prop) (Kr : Bool → Prop) : Prop :=
  (bif (decide (v13 < v12)) then (inB v13 s11.length) ∧ (inB v13 s21.length) ∧ (bif (!((s11.getD v13.toNat ByteArray.empty).toList == (s21.getD v13.toNat ByteArray.empty).toList)) then Kr false else self (i64 (v13 + 1))) else Kx0)
def L.slices_Equal_L1_R (s11 : (List ByteArray)) (s21 : (List ByteArray)) (v12 : Int) : Nat → Int → (Prop) → (Bool → Prop) → Prop
  | 0, _, _, _ => False
  | fu + 1, v13, Kx0, Kr => L.slices_Equal_L1_b s11 s21 v12 v13 (fun v13 => L.slices_Equal_L1_R s11 s21 v12 fu v13 Kx0 Kr) Kx0 Kr
structure L.slices_Equal_L1 (s11 : (List ByteArray)) (s21 : (List ByteArray)) (v12 : Int) (v13 : Int) (Kx0 : Prop) (Kr : Bool → Prop) : Prop where
  out : ∃ fu, L.slices_Equal_L1_R s11 s21 v12 fu v13 Kx0 Kr
def L.slices_Equal_L1_d : LoopD := { base := 0, vecs := [], flds := [], keep := [0, 1, 12, 13], out := [], rets := [4], rv := [], rbase := 0 }
def L.slices_Equal_L1_ss : List Sh := [.ro .str, .ro .str, .int .i64, .int .i64]
def L.slices_Equal_L1_os : List OSh := []
def L.slices_Equal_L1_G (vs : List V) (st : List Ob) (K : Ex → St) : Prop := L.slices_Equal_L1 (gR .str (vs.getD 0 .any)) (gR .str (vs.getD 1 .any)) (gI (vs.getD 2 .any)) (gI (vs.getD 3 .any)) (K (.exit 0) (bld [] [] 0 26) []) (fun q0_ => K .ret (bld [4] [.x (.bool q0_)] 0 26) [])
def L.slices_Equal_L1_F (vs : List V) (st : List Ob) (K : Ex → St) : Prop := fitF L.slices_Equal_L1_ss L.slices_Equal_L1_os vs st (L.slices_Equal_L1_G vs st K)
theorem L.slices_Equal_L1_eq (s11 : (List ByteArray)) (s21 : (List ByteArray)) (v12 : Int) (K : Ex → St) : ∀ (fu : Nat) (v13 : Int), L.slices_Equal_L1_R s11 s21 v12 fu v13 (K (.exit 0) (bld [] [] 0 26) []) (fun q0_ => K .ret (bld [4] [.x (.bool q0_)] 0 26) []) = iterL (stepL (exec Tryd.prog (CC Tryd.prog L.Γ_slices_Equal L.Δ_slices_Equal) (drawD Tryd.prog L.Γ_slices_Equal L.Δ_slices_Equal) .leaf (sub [true, true, false, true, false, false] (codeOf Tryd.f40))) 0 L.slices_Equal_L1_d K) fu (bld L.slices_Equal_L1_d.keep [.ro .str s11, .ro .str s21, .xi v12, .xi v13] 0 26) [] := by
  intro fu
  induction fu with
  | zero => intros; rfl
  | succ fu ih =>
    intro v13
    have e : (fun v13 => L.slices_Equal_L1_R s11 s21 v12 fu v13 (K (.exit 0) (bld [] [] 0 26) []) (fun q0_ => K .ret (bld [4] [.x (.bool q0_)] 0 26) [])) = fun v13 => iterL (stepL (exec Tryd.prog (CC Tryd.prog L.Γ_slices_Equal L.Δ_slices_Equal) (drawD Tryd.prog L.Γ_slices_Equal L.Δ_slices_Equal) .leaf (sub [true, true, false, true, false, false] (codeOf Tryd.f40))) 0 L.slices_Equal_L1_d K) fu (bld L.slices_Equal_L1_d.keep [.ro .str s11, .ro .str s21, .xi v12, .xi v13] 0 26) [] := by
      funext v13; exact ih v13
    show L.slices_Equal_L1_b s11 s21 v12 v13 (fun v13 => L.slices_Equal_L1_R s11 s21 v12 fu v13 (K (.exit 0) (bld [] [] 0 26) []) (fun q0_ => K .ret (bld [4] [.x (.bool q0_)] 0 26) [])) (K (.exit 0) (bld [] [] 0 26) []) (fun q0_ => K .ret (bld [4] [.x (.bool q0_)] 0 26) []) = _
    rw [e]
    kernel_rfl
theorem L.slices_Equal_L1_imp (vs : List V) (st : List Ob) (K : Ex → St) (h : L.slices_Equal_L1_G vs st K) : ∃ fu, iterL (stepL (exec Tryd.prog (CC Tryd.prog L.Γ_slices_Equal L.Δ_slices_Equal) (drawD Tryd.prog L.Γ_slices_Equal L.Δ_slices_Equal) .leaf (sub [true, true, false, true, false, false] (codeOf Tryd.f40))) 0 L.slices_Equal_L1_d K) fu (bld L.slices_Equal_L1_d.keep (mkL L.slices_Equal_L1_ss 0 vs) 0 26) (mkOs L.slices_Equal_L1_os 0 st) :=
  exMap (fun fu h => @Eq.mp _ _ (Eq.trans (L.slices_Equal_L1_eq (gR .str (vs.getD 0 .any)) (gR .str (vs.getD 1 .any)) (gI (vs.getD 2 .any)) K fu (gI (vs.getD 3 .any))) (by kernel_rfl)) h) (L.slices_Equal_L1.out h)
theorem L.slices_Equal_L1_ok : AnnOk Tryd.prog (CC Tryd.prog L.Γ_slices_Equal L.Δ_slices_Equal) (drawD Tryd.prog L.Γ_slices_Equal L.Δ_slices_Equal) 0 (.lift L.slices_Equal_L1_d 26 L.slices_Equal_L1_F) (.loop (sub [true, true, false, true, false, false] (codeOf Tryd.f40))) :=
  lift_ok (an := .leaf) (ss := L.slices_Equal_L1_ss) (os := L.slices_Equal_L1_os) (G := L.slices_Equal_L1_G) rfl (Nat.le_of_ble_eq_true rfl) (annOk_leaf _) (L.slices_Equal_L1_imp)
def L.slices_Equal_B (s1 : (List ByteArray)) (s2 : (List ByteArray)) (K : Bool → Prop) : Prop :=
  (bif ((s1.length : Int) != (s2.length : Int)) then K false else L.slices_Equal_L1 s1 s2 (s1.length : Int) 0 (K true) (fun r => K r))
structure L.slices_Equal (s1 : (List ByteArray)) (s2 : (List ByteArray)) (K : Bool → Prop) : Prop where
  out : L.slices_Equal_B s1 s2 K
def L.slices_Equal_ss : List Sh := [.ro .str, .ro .str]
def L.slices_Equal_G (vs : List V) (K : V → List Ob → Prop) : Prop := L.slices_Equal (gR .str (vs.getD 0 .any)) (gR .str (vs.getD 1 .any)) (fun r0 => K (.x (.bool r0)) [])
def L.slices_Equal_S : SemF := fun args K => argF L.slices_Equal_ss args fun a => L.slices_Equal_G a K
theorem L.slices_Equal_eq (s1 : (List ByteArray)) (s2 : (List ByteArray)) (K : V → List Ob → Prop) : run Tryd.prog L.Γ_slices_Equal L.Δ_slices_Equal (.node .leaf (.node .leaf (.node (.node .leaf (.lift L.slices_Equal_L1_d 26 L.slices_Equal_L1_F)) .leaf))) .any Tryd.f40 [.ro .str s1, .ro .str s2] K = L.slices_Equal_B s1 s2 (fun r0 => K (.x (.bool r0)) []) := by
  kernel_rfl
theorem L.slices_Equal_imp (vs : List V) (K : V → List Ob → Prop) : Imp (L.slices_Equal_G vs K) (run Tryd.prog L.Γ_slices_Equal L.Δ_slices_Equal (.node .leaf (.node .leaf (.node (.node .leaf (.lift L.slices_Equal_L1_d 26 L.slices_Equal_L1_F)) .leaf))) .any Tryd.f40 (mkL L.slices_Equal_ss 0 vs) K) :=
  Imp.of (Eq.trans (b := run Tryd.prog L.Γ_slices_Equal L.Δ_slices_Equal (.node .leaf (.node .leaf (.node (.node .leaf (.lift L.slices_Equal_L1_d 26 L.slices_Equal_L1_F)) .leaf))) .any Tryd.f40 [.ro .str (gR .str (vs.getD 0 .any)), .ro .str (gR .str (vs.getD 1 .any))] K) (by kernel_rfl) (L.slices_Equal_eq (gR .str (vs.getD 0 .any)) (gR .str (vs.getD 1 .any)) K)) fun h => (L.slices_Equal.out h)
theorem L.slices_Equal_ok : SoundFn Tryd.prog 40 L.slices_Equal_S :=
  fn_ok (sem := run Tryd.prog L.Γ_slices_Equal L.Δ_slices_Equal (.node .leaf (.node .leaf (.node (.node .leaf (.lift L.slices_Equal_L1_d 26 L.slices_Equal_L1_F)) .leaf))) .any Tryd.f40) (ss := L.slices_Equal_ss) (G := L.slices_Equal_G) (run_ok L.Γ_slices_Equal_ok L.Δ_slices_Equal_ok Tryd.func40 (ann := (.node .leaf (.node .leaf (.node (.node .leaf (.lift L.slices_Equal_L1_d 26 L.slices_Equal_L1_F)) .leaf)))) ⟨(annOk_leaf _), ⟨(annOk_leaf _), ⟨⟨(annOk_leaf _), L.slices_Equal_L1_ok⟩, (annOk_leaf _)⟩⟩⟩) L.slices_Equal_imp
/-- changeforge/lines.Occurs -/
def L.Γ_lines_Occurs : Ctx := ctxC L.Γ_slices_Equal 40 L.slices_Equal_S
theorem L.Γ_lines_Occurs_ok : SoundG Tryd.prog L.Γ_lines_Occurs := ctxC_ok L.Γ_slices_Equal_ok L.slices_Equal_ok
def L.Δ_lines_Occurs : CtxO := L.Δ_slices_Equal
theorem L.Δ_lines_Occurs_ok : SoundGO Tryd.prog L.Δ_lines_Occurs := L.Δ_slices_Equal_ok
def L.lines_Occurs_B (text : (List ByteArray)) (part : (List ByteArray)) (at_ : Int) (K : Bool → Prop) : Prop :=
  ((((bif (bif (decide (at_ ≥ 0)) then (decide (at_ ≤ (text.length : Int))) else false) then (decide ((part.length : Int) ≤ (i64 ((text.length : Int) - at_)))) else false) == true) = true → 0 ≤ at_ ∧ at_ ≤ (i64 (at_ + (part.length : Int))) ∧ (i64 (at_ + (part.length : Int))) ≤ text.length)) ∧ (bif (bif (bif (decide (at_ ≥ 0)) then (decide (at_ ≤ (text.length : Int))) else false) then (decide ((part.length : Int) ≤ (i64 ((text.length : Int) - at_)))) else false) then L.slices_Equal ((text.take (i64 (at_ + (part.length : Int))).toNat).drop at_.toNat) part (fun r => K (bif true then r else false)) else K false)
structure L.lines_Occurs (text : (List ByteArray)) (part : (List ByteArray)) (at_ : Int) (K : Bool → Prop) : Prop where
  out : L.lines_Occurs_B text part at_ K
def L.lines_Occurs_ss : List Sh := [.ro .str, .ro .str, .int .i64]
def L.lines_Occurs_G (vs : List V) (K : V → List Ob → Prop) : Prop := L.lines_Occurs (gR .str (vs.getD 0 .any)) (gR .str (vs.getD 1 .any)) (gI (vs.getD 2 .any)) (fun r0 => K (.x (.bool r0)) [])
def L.lines_Occurs_S : SemF := fun args K => argF L.lines_Occurs_ss args fun a => L.lines_Occurs_G a K
theorem L.lines_Occurs_eq (text : (List ByteArray)) (part : (List ByteArray)) (at_ : Int) (K : V → List Ob → Prop) : run Tryd.prog L.Γ_lines_Occurs L.Δ_lines_Occurs .leaf .any Tryd.f18 [.ro .str text, .ro .str part, .xi at_] K = L.lines_Occurs_B text part at_ (fun r0 => K (.x (.bool r0)) []) := by
  kernel_rfl
theorem L.lines_Occurs_imp (vs : List V) (K : V → List Ob → Prop) : Imp (L.lines_Occurs_G vs K) (run Tryd.prog L.Γ_lines_Occurs L.Δ_lines_Occurs .leaf .any Tryd.f18 (mkL L.lines_Occurs_ss 0 vs) K) :=
  Imp.of (Eq.trans (b := run Tryd.prog L.Γ_lines_Occurs L.Δ_lines_Occurs .leaf .any Tryd.f18 [.ro .str (gR .str (vs.getD 0 .any)), .ro .str (gR .str (vs.getD 1 .any)), .xi (gI (vs.getD 2 .any))] K) (by kernel_rfl) (L.lines_Occurs_eq (gR .str (vs.getD 0 .any)) (gR .str (vs.getD 1 .any)) (gI (vs.getD 2 .any)) K)) fun h => (L.lines_Occurs.out h)
theorem L.lines_Occurs_ok : SoundFn Tryd.prog 18 L.lines_Occurs_S :=
  fn_ok (sem := run Tryd.prog L.Γ_lines_Occurs L.Δ_lines_Occurs .leaf .any Tryd.f18) (ss := L.lines_Occurs_ss) (G := L.lines_Occurs_G) (run_ok L.Γ_lines_Occurs_ok L.Δ_lines_Occurs_ok Tryd.func18 (ann := .leaf) (annOk_leaf _)) L.lines_Occurs_imp
/-- changeforge/textpatch.Raw -/
def L.Γ_textpatch_Raw : Ctx := ctxC L.Γ_lines_Occurs 18 L.lines_Occurs_S
theorem L.Γ_textpatch_Raw_ok : SoundG Tryd.prog L.Γ_textpatch_Raw := ctxC_ok L.Γ_lines_Occurs_ok L.lines_Occurs_ok
def L.Δ_textpatch_Raw : CtxO := L.Δ_lines_Occurs
theorem L.Δ_textpatch_Raw_ok : SoundGO Tryd.prog L.Δ_textpatch_Raw := L.Δ_lines_Occurs_ok
def L.textpatch_Raw_J2_B (h : Int) (h1 : (List ByteArray)) (h2 : (List ByteArray)) (Kn : Int → Prop) : Prop :=
  L.textpatch_End h h1 h2 (fun r => Kn r)
structure L.textpatch_Raw_J2 (h : Int) (h1 : (List ByteArray)) (h2 : (List ByteArray)) (Kn : Int → Prop) : Prop where
  out : L.textpatch_Raw_J2_B h h1 h2 Kn
def L.textpatch_Raw_J2_d : CutD := { base := 4, vecs := [], flds := [], keep := [1, 3, 9, 11, 12, 13, 14], out := [1, 2, 3, 9, 12, 13, 14], rets := [8], ovecs := [], oflds := [], rv := [], rbase := 0 }
def L.textpatch_Raw_J2_ss : List Sh := [.ro .str, .int .i64, .vec 3, .cl 1 0, .ro L.T5, .int .i64, .int .i64]
def L.textpatch_Raw_J2_os : List OSh := [.dead, .cells [.int .i64, .ro .str, .ro .str], .dead, .vec .str true]
def L.textpatch_Raw_J2_G (vs : List V) (st : List Ob) (K : Ex → St) : Prop := L.textpatch_Raw_J2 (cI st 1 0) (gR .str ((oC (st.getD 1 .dead)).getD 1 .any)) (gR .str ((oC (st.getD 1 .dead)).getD 2 .any)) (fun q0_ => K .normal (bld [1, 2, 3, 9, 12, 13, 14] [.ro .str (gR .str (vs.getD 0 .any)), .xi q0_, .xi (gI (vs.getD 1 .any)), .vec 3, .ro L.T5 (gR L.T5 (vs.getD 4 .any)), .xi (gI (vs.getD 5 .any)), .xi (gI (vs.getD 6 .any))] 0 37) [.dead, .cells [.xi (cI st 1 0), .ro .str (gR .str ((oC (st.getD 1 .dead)).getD 1 .any)), .ro .str (gR .str ((oC (st.getD 1 .dead)).getD 2 .any))], .dead, .vec .str 0 (oX .str (st.getD 3 .dead))])
def L.textpatch_Raw_J2_F (vs : List V) (st : List Ob) (K : Ex → St) : Prop := fitF L.textpatch_Raw_J2_ss L.textpatch_Raw_J2_os vs st (L.textpatch_Raw_J2_G vs st K)
theorem L.textpatch_Raw_J2_eq (text2 : (List ByteArray)) (high2 : Int) (v121 : L.T6) (v131 : Int) (v141 : Int) (h : Int) (h1 : (List ByteArray)) (h2 : (List ByteArray)) (out1 : (List ByteArray)) (K : Ex → St) : L.textpatch_Raw_J2_B h h1 h2 (fun q0_ => K .normal (bld [1, 2, 3, 9, 12, 13, 14] [.ro .str text2, .xi q0_, .xi high2, .vec 3, .ro L.T5 v121, .xi v131, .xi v141] 0 37) [.dead, .cells [.xi h, .ro .str h1, .ro .str h2], .dead, .vec .str 0 out1]) = exec Tryd.prog (CC Tryd.prog L.Γ_textpatch_Raw L.Δ_textpatch_Raw) (drawD Tryd.prog L.Γ_textpatch_Raw L.Δ_textpatch_Raw) .leaf (sub [true, true, false, true, false, false, true, true, false, false, true, true] (codeOf Tryd.f19)) (bld L.textpatch_Raw_J2_d.keep [.ro .str text2, .xi high2, .vec 3, .cl 1 0, .ro L.T5 v121, .xi v131, .xi v141] 0 37) [.dead, .cells [.xi h, .ro .str h1, .ro .str h2], .dead, .vec .str 0 out1] (cutK L.textpatch_Raw_J2_d K) := by
  kernel_rfl
theorem L.textpatch_Raw_J2_ok (vs : List V) (st : List Ob) (K : Ex → St) : Imp (L.textpatch_Raw_J2_G vs st K) (exec Tryd.prog (CC Tryd.prog L.Γ_textpatch_Raw L.Δ_textpatch_Raw) (drawD Tryd.prog L.Γ_textpatch_Raw L.Δ_textpatch_Raw) .leaf (sub [true, true, false, true, false, false, true, true, false, false, true, true] (codeOf Tryd.f19)) (bld L.textpatch_Raw_J2_d.keep (mkL L.textpatch_Raw_J2_ss 0 vs) 0 37) (mkOs L.textpatch_Raw_J2_os 0 st) (cutK L.textpatch_Raw_J2_d K)) :=
  Imp.of (Eq.trans (b := exec Tryd.prog (CC Tryd.prog L.Γ_textpatch_Raw L.Δ_textpatch_Raw) (drawD Tryd.prog L.Γ_textpatch_Raw L.Δ_textpatch_Raw) .leaf (sub [true, true, false, true, false, false, true, true, false, false, true, true] (codeOf Tryd.f19)) (bld L.textpatch_Raw_J2_d.keep [.ro .str (gR .str (vs.getD 0 .any)), .xi (gI (vs.getD 1 .any)), .vec 3, .cl 1 0, .ro L.T5 (gR L.T5 (vs.getD 4 .any)), .xi (gI (vs.getD 5 .any)), .xi (gI (vs.getD 6 .any))] 0 37) [.dead, .cells [.xi (cI st 1 0), .ro .str (gR .str ((oC (st.getD 1 .dead)).getD 1 .any)), .ro .str (gR .str ((oC (st.getD 1 .dead)).getD 2 .any))], .dead, .vec .str 0 (oX .str (st.getD 3 .dead))] (cutK L.textpatch_Raw_J2_d K)) (by kernel_rfl) (Eq.symm (L.textpatch_Raw_J2_eq (gR .str (vs.getD 0 .any)) (gI (vs.getD 1 .any)) (gR L.T5 (vs.getD 4 .any)) (gI (vs.getD 5 .any)) (gI (vs.getD 6 .any)) (cI st 1 0) (gR .str ((oC (st.getD 1 .dead)).getD 1 .any)) (gR .str ((oC (st.getD 1 .dead)).getD 2 .any)) (oX .str (st.getD 3 .dead)) K))) fun h => (L.textpatch_Raw_J2.out h)
def L.textpatch_Raw_L1_b (text1 : (List ByteArray)) (v12 : L.T6) (v13 : Int) (low1 : Int) (v14 : Int) (out : (List ByteArray)) (self : Int → Int → (List ByteArray) → Prop) (Kx0 : Int → (List ByteArray) → Prop) : Prop :=
  (bif (decide (v14 < v13)) then (inB v14 v12.length) ∧ (0 ≤ low1 ∧ low1 ≤ ((v12.getD v14.toNat (0, ([], []))).1) ∧ ((v12.getD v14.toNat (0, ([], []))).1) ≤ text1.length) ∧ ((fits (out.length + ((text1.take ((v12.getD v14.toNat (0, ([], []))).1).toNat).drop low1.toNat).length)) ∧ (fits ((out ++ ((text1.take ((v12.getD v14.toNat (0, ([], []))).1).toNat).drop low1.toNat)).length + ((v12.getD v14.toNat (0, ([], []))).2.2).length)) ∧ L.textpatch_Raw_J2 ((v12.getD v14.toNat (0, ([], []))).1) ((v12.getD v14.toNat (0, ([], []))).2.1) ((v12.getD v14.toNat (0, ([], []))).2.2) (fun low2 => self low2 (i64 (v14 + 1)) ((out ++ ((text1.take ((v12.getD v14.toNat (0, ([], []))).1).toNat).drop low1.toNat)) ++ (v12.getD v14.toNat (0, ([], []))).2.2))) ∧ (fits (out.length + ((text1.take ((v12.getD v14.toNat (0, ([], []))).1).toNat).drop low1.toNat).length)) ∧ (fits ((out ++ ((text1.take ((v12.getD v14.toNat (0, ([], []))).1).toNat).drop low1.toNat)).length + ((v12.getD v14.toNat (0, ([], []))).2.2).length)) ∧ L.textpatch_Raw_J2 ((v12.getD v14.toNat (0, ([], []))).1) ((v12.getD v14.toNat (0, ([], []))).2.1) ((v12.getD v14.toNat (0, ([], []))).2.2) (fun low2 => self low2 (i64 (v14 + 1)) ((out ++ ((text1.take ((v12.getD v14.toNat (0, ([], []))).1).toNat).drop low1.toNat)) ++ (v12.getD v14.toNat (0, ([], []))).2.2)) else Kx0 low1 out)
def L.textpatch_Raw_L1_R (text1 : (List ByteArray)) (v12 : L.T6) (v13 : Int) : Nat → Int → Int → (List ByteArray) → (Int → (List ByteArray) → Prop) → Prop
  | 0, _, _, _, _ => False
  | fu + 1, low1, v14, out, Kx0 => L.textpatch_Raw_L1_b text1 v12 v13 low1 v14 out (fun low1 v14 out => L.textpatch_Raw_L1_R text1 v12 v13 fu low1 v14 out Kx0) Kx0
structure L.textpatch_Raw_L1 (text1 : (List ByteArray)) (v12 : L.T6) (v13 : Int) (low1 : Int) (v14 : Int) (out : (List ByteArray)) (Kx0 : Int → (List ByteArray) → Prop) : Prop where
  out : ∃ fu, L.textpatch_Raw_L1_R text1 v12 v13 fu low1 v14 out Kx0
def L.textpatch_Raw_L1_d : LoopD := { base := 0, vecs := [(9, .sl .str)], flds := [], keep := [1, 2, 3, 9, 12, 13, 14], out := [1, 2, 3, 9], rets := [8], rv := [], rbase := 0 }
def L.textpatch_Raw_L1_ss : List Sh := [.ro .str, .int .i64, .int .i64, .vec 0, .ro L.T5, .int .i64, .int .i64]
def L.textpatch_Raw_L1_os : List OSh := [.vec .str true]
def L.textpatch_Raw_L1_G (vs : List V) (st : List Ob) (K : Ex → St) : Prop := L.textpatch_Raw_L1 (gR .str (vs.getD 0 .any)) (gR L.T5 (vs.getD 4 .any)) (gI (vs.getD 5 .any)) (gI (vs.getD 1 .any)) (gI (vs.getD 6 .any)) (oX .str (st.getD 0 .dead)) (fun q0_ q1_ => K (.exit 0) (bld [1, 2, 3, 9] [.ro .str (gR .str (vs.getD 0 .any)), .xi q0_, .xi (gI (vs.getD 2 .any)), .vec 0] 0 37) [.vec .str 0 q1_])
def L.textpatch_Raw_L1_F (vs : List V) (st : List Ob) (K : Ex → St) : Prop := fitF L.textpatch_Raw_L1_ss L.textpatch_Raw_L1_os vs st (L.textpatch_Raw_L1_G vs st K)
theorem L.textpatch_Raw_L1_eq (text1 : (List ByteArray)) (high1 : Int) (v12 : L.T6) (v13 : Int) (K : Ex → St) : ∀ (fu : Nat) (low1 : Int) (v14 : Int) (out : (List ByteArray)), L.textpatch_Raw_L1_R text1 v12 v13 fu low1 v14 out (fun q0_ q1_ => K (.exit 0) (bld [1, 2, 3, 9] [.ro .str text1, .xi q0_, .xi high1, .vec 0] 0 37) [.vec .str 0 q1_]) = iterL (stepL (exec Tryd.prog (CC Tryd.prog L.Γ_textpatch_Raw L.Δ_textpatch_Raw) (drawD Tryd.prog L.Γ_textpatch_Raw L.Δ_textpatch_Raw) (.node .leaf (.node .leaf (.node (.node .leaf (.cut .leaf L.textpatch_Raw_J2_d 37 L.textpatch_Raw_J2_F)) .leaf))) (sub [true, true, false, true, false, false] (codeOf Tryd.f19))) 0 L.textpatch_Raw_L1_d K) fu (bld L.textpatch_Raw_L1_d.keep [.ro .str text1, .xi low1, .xi high1, .vec 0, .ro L.T5 v12, .xi v13, .xi v14] 0 37) [.vec .str 0 out] := by
  intro fu
  induction fu with
  | zero => intros; rfl
  | succ fu ih =>
    intro low1 v14 out
    have e : (fun low1 v14 out => L.textpatch_Raw_L1_R text1 v12 v13 fu low1 v14 out (fun q0_ q1_ => K (.exit 0) (bld [1, 2, 3, 9] [.ro .str text1, .xi q0_, .xi high1, .vec 0] 0 37) [.vec .str 0 q1_])) = fun low1 v14 out => iterL (stepL (exec Tryd.prog (CC Tryd.prog L.Γ_textpatch_Raw L.Δ_textpatch_Raw) (drawD Tryd.prog L.Γ_textpatch_Raw L.Δ_textpatch_Raw) (.node .leaf (.node .leaf (.node (.node .leaf (.cut .leaf L.textpatch_Raw_J2_d 37 L.textpatch_Raw_J2_F)) .leaf))) (sub [true, true, false, true, false, false] (codeOf Tryd.f19))) 0 L.textpatch_Raw_L1_d K) fu (bld L.textpatch_Raw_L1_d.keep [.ro .str text1, .xi low1, .xi high1, .vec 0, .ro L.T5 v12, .xi v13, .xi v14] 0 37) [.vec .str 0 out] := by
      funext low1 v14 out; exact ih low1 v14 out
    show L.textpatch_Raw_L1_b text1 v12 v13 low1 v14 out (fun low1 v14 out => L.textpatch_Raw_L1_R text1 v12 v13 fu low1 v14 out (fun q0_ q1_ => K (.exit 0) (bld [1, 2, 3, 9] [.ro .str text1, .xi q0_, .xi high1, .vec 0] 0 37) [.vec .str 0 q1_])) (fun q0_ q1_ => K (.exit 0) (bld [1, 2, 3, 9] [.ro .str text1, .xi q0_, .xi high1, .vec 0] 0 37) [.vec .str 0 q1_]) = _
    rw [e]
    kernel_rfl
theorem L.textpatch_Raw_L1_imp (vs : List V) (st : List Ob) (K : Ex → St) (h : L.textpatch_Raw_L1_G vs st K) : ∃ fu, iterL (stepL (exec Tryd.prog (CC Tryd.prog L.Γ_textpatch_Raw L.Δ_textpatch_Raw) (drawD Tryd.prog L.Γ_textpatch_Raw L.Δ_textpatch_Raw) (.node .leaf (.node .leaf (.node (.node .leaf (.cut .leaf L.textpatch_Raw_J2_d 37 L.textpatch_Raw_J2_F)) .leaf))) (sub [true, true, false, true, false, false] (codeOf Tryd.f19))) 0 L.textpatch_Raw_L1_d K) fu (bld L.textpatch_Raw_L1_d.keep (mkL L.textpatch_Raw_L1_ss 0 vs) 0 37) (mkOs L.textpatch_Raw_L1_os 0 st) :=
  exMap (fun fu h => @Eq.mp _ _ (Eq.trans (L.textpatch_Raw_L1_eq (gR .str (vs.getD 0 .any)) (gI (vs.getD 2 .any)) (gR L.T5 (vs.getD 4 .any)) (gI (vs.getD 5 .any)) K fu (gI (vs.getD 1 .any)) (gI (vs.getD 6 .any)) (oX .str (st.getD 0 .dead))) (by kernel_rfl)) h) (L.textpatch_Raw_L1.out h)
theorem L.textpatch_Raw_L1_ok : AnnOk Tryd.prog (CC Tryd.prog L.Γ_textpatch_Raw L.Δ_textpatch_Raw) (drawD Tryd.prog L.Γ_textpatch_Raw L.Δ_textpatch_Raw) 0 (.lift L.textpatch_Raw_L1_d 37 L.textpatch_Raw_L1_F) (.loop (sub [true, true, false, true, false, false] (codeOf Tryd.f19))) :=
  lift_ok (an := (.node .leaf (.node .leaf (.node (.node .leaf (.cut .leaf L.textpatch_Raw_J2_d 37 L.textpatch_Raw_J2_F)) .leaf)))) (ss := L.textpatch_Raw_L1_ss) (os := L.textpatch_Raw_L1_os) (G := L.textpatch_Raw_L1_G) rfl (Nat.le_of_ble_eq_true rfl) ⟨(annOk_leaf _), ⟨(annOk_leaf _), ⟨⟨(annOk_leaf _), (cut_ok (ay := .leaf) (ss := L.textpatch_Raw_J2_ss) (os := L.textpatch_Raw_J2_os) (G := L.textpatch_Raw_J2_G) rfl (annOk_leaf _) (Nat.le_of_ble_eq_true rfl) (Nat.le_of_ble_eq_true rfl) (annOk_leaf _) L.textpatch_Raw_J2_ok)⟩, (annOk_leaf _)⟩⟩⟩ (L.textpatch_Raw_L1_imp)
def L.textpatch_Raw_B (hunks : L.T6) (text : (List ByteArray)) (low : Int) (high : Int) (K : (List ByteArray) → Prop) : Prop :=
  L.textpatch_Raw_L1 text hunks (hunks.length : Int) low 0 ([] : List ByteArray) (fun low1 out => (0 ≤ low1 ∧ low1 ≤ high ∧ high ≤ text.length) ∧ (fits (out.length + ((text.take high.toNat).drop low1.toNat).length)) ∧ K (out ++ ((text.take high.toNat).drop low1.toNat)))
structure L.textpatch_Raw (hunks : L.T6) (text : (List ByteArray)) (low : Int) (high : Int) (K : (List ByteArray) → Prop) : Prop where
  out : L.textpatch_Raw_B hunks text low high K
def L.textpatch_Raw_ss : List Sh := [.ro L.T5, .ro .str, .int .i64, .int .i64]
def L.textpatch_Raw_G (vs : List V) (K : V → List Ob → Prop) : Prop := L.textpatch_Raw (gR L.T5 (vs.getD 0 .any)) (gR .str (vs.getD 1 .any)) (gI (vs.getD 2 .any)) (gI (vs.getD 3 .any)) (fun r0 => K (.vec 0) [.vec .str 0 r0])
def L.textpatch_Raw_S : SemF := fun args K => argF L.textpatch_Raw_ss args fun a => L.textpatch_Raw_G a K
theorem L.textpatch_Raw_eq (hunks : L.T6) (text : (List ByteArray)) (low : Int) (high : Int) (K : V → List Ob → Prop) : run Tryd.prog L.Γ_textpatch_Raw L.Δ_textpatch_Raw (.node .leaf (.node .leaf (.node (.node .leaf (.lift L.textpatch_Raw_L1_d 37 L.textpatch_Raw_L1_F)) .leaf))) (.sl .str) Tryd.f19 [.ro L.T5 hunks, .ro .str text, .xi low, .xi high] K = L.textpatch_Raw_B hunks text low high (fun r0 => K (.vec 0) [.vec .str 0 r0]) := by
  kernel_rfl
theorem L.textpatch_Raw_imp (vs : List V) (K : V → List Ob → Prop) : Imp (L.textpatch_Raw_G vs K) (run Tryd.prog L.Γ_textpatch_Raw L.Δ_textpatch_Raw (.node .leaf (.node .leaf (.node (.node .leaf (.lift L.textpatch_Raw_L1_d 37 L.textpatch_Raw_L1_F)) .leaf))) (.sl .str) Tryd.f19 (mkL L.textpatch_Raw_ss 0 vs) K) :=
  Imp.of (Eq.trans (b := run Tryd.prog L.Γ_textpatch_Raw L.Δ_textpatch_Raw (.node .leaf (.node .leaf (.node (.node .leaf (.lift L.textpatch_Raw_L1_d 37 L.textpatch_Raw_L1_F)) .leaf))) (.sl .str) Tryd.f19 [.ro L.T5 (gR L.T5 (vs.getD 0 .any)), .ro .str (gR .str (vs.getD 1 .any)), .xi (gI (vs.getD 2 .any)), .xi (gI (vs.getD 3 .any))] K) (by kernel_rfl) (L.textpatch_Raw_eq (gR L.T5 (vs.getD 0 .any)) (gR .str (vs.getD 1 .any)) (gI (vs.getD 2 .any)) (gI (vs.getD 3 .any)) K)) fun h => (L.textpatch_Raw.out h)
theorem L.textpatch_Raw_ok : SoundFn Tryd.prog 19 L.textpatch_Raw_S :=
  fn_ok (sem := run Tryd.prog L.Γ_textpatch_Raw L.Δ_textpatch_Raw (.node .leaf (.node .leaf (.node (.node .leaf (.lift L.textpatch_Raw_L1_d 37 L.textpatch_Raw_L1_F)) .leaf))) (.sl .str) Tryd.f19) (ss := L.textpatch_Raw_ss) (G := L.textpatch_Raw_G) (run_ok L.Γ_textpatch_Raw_ok L.Δ_textpatch_Raw_ok Tryd.func19 (ann := (.node .leaf (.node .leaf (.node (.node .leaf (.lift L.textpatch_Raw_L1_d 37 L.textpatch_Raw_L1_F)) .leaf)))) ⟨(annOk_leaf _), ⟨(annOk_leaf _), ⟨⟨(annOk_leaf _), L.textpatch_Raw_L1_ok⟩, (annOk_leaf _)⟩⟩⟩) L.textpatch_Raw_imp
/-- changeforge/textpatch.Apply -/
def L.Γ_textpatch_Apply : Ctx := ctxC L.Γ_textpatch_Raw 19 L.textpatch_Raw_S
theorem L.Γ_textpatch_Apply_ok : SoundG Tryd.prog L.Γ_textpatch_Apply := ctxC_ok L.Γ_textpatch_Raw_ok L.textpatch_Raw_ok
def L.Δ_textpatch_Apply : CtxO := L.Δ_textpatch_Raw
theorem L.Δ_textpatch_Apply_ok : SoundGO Tryd.prog L.Δ_textpatch_Apply := L.Δ_textpatch_Raw_ok
def L.textpatch_Apply_L1_b (text1 : (List ByteArray)) (v24 : L.T6) (v25 : Int) (v26 : Int) (self : Int → Prop) (Kx0 : Prop) (Kr : Int → Int → Prop) : Prop :=
  (bif (decide (v26 < v25)) then (inB v26 v24.length) ∧ L.lines_Occurs text1 ((v24.getD v26.toNat (0, ([], []))).2.1) ((v24.getD v26.toNat (0, ([], []))).1) (fun r => (bif (!r) then Kr 19 v26 else self (i64 (v26 + 1)))) else Kx0)
def L.textpatch_Apply_L1_R (text1 : (List ByteArray)) (v24 : L.T6) (v25 : Int) : Nat → Int → (Prop) → (Int → Int → Prop) → Prop
  | 0, _, _, _ => False
  | fu + 1, v26, Kx0, Kr => L.textpatch_Apply_L1_b text1 v24 v25 v26 (fun v26 => L.textpatch_Apply_L1_R text1 v24 v25 fu v26 Kx0 Kr) Kx0 Kr
structure L.textpatch_Apply_L1 (text1 : (List ByteArray)) (v24 : L.T6) (v25 : Int) (v26 : Int) (Kx0 : Prop) (Kr : Int → Int → Prop) : Prop where
  out : ∃ fu, L.textpatch_Apply_L1_R text1 v24 v25 fu v26 Kx0 Kr
def L.textpatch_Apply_L1_d : LoopD := { base := 4, vecs := [], flds := [], keep := [1, 2, 5, 24, 25, 26], out := [1, 2, 5], rets := [4, 5], rv := [], rbase := 0 }
def L.textpatch_Apply_L1_ss : List Sh := [.ro .str, .cl 0 0, .cl 1 0, .ro L.T5, .int .i64, .int .i64]
def L.textpatch_Apply_L1_os : List OSh := [.cells [.ro L.T5], .cells [.int .i64, .int .i64], .cells [.int .i64, .int .i64], .cells [.int .i64, .int .i64]]
def L.textpatch_Apply_L1_G (vs : List V) (st : List Ob) (K : Ex → St) : Prop := L.textpatch_Apply_L1 (gR .str (vs.getD 0 .any)) (gR L.T5 (vs.getD 3 .any)) (gI (vs.getD 4 .any)) (gI (vs.getD 5 .any)) (K (.exit 0) (bld [1, 2, 5] [.ro .str (gR .str (vs.getD 0 .any)), .cl 0 0, .cl 1 0] 0 53) [.cells [.ro L.T5 (gR L.T5 ((oC (st.getD 0 .dead)).getD 0 .any))], .cells [.xi (cI st 1 0), .xi (cI st 1 1)], .cells [.xi (cI st 2 0), .xi (cI st 2 1)], .cells [.xi (cI st 3 0), .xi (cI st 3 1)]]) (fun q0_ q1_ => K .ret (bld [4, 5] [.x (.slice none 0 0), .cl 0 0] 0 53) [.cells [.xi q0_, .xi q1_]])
def L.textpatch_Apply_L1_F (vs : List V) (st : List Ob) (K : Ex → St) : Prop := fitF L.textpatch_Apply_L1_ss L.textpatch_Apply_L1_os vs st (L.textpatch_Apply_L1_G vs st K)
theorem L.textpatch_Apply_L1_eq (text1 : (List ByteArray)) (v24 : L.T6) (v25 : Int) (p : L.T6) (m1 : Int) (m11 : Int) (m2 : Int) (m21 : Int) (m3 : Int) (m31 : Int) (K : Ex → St) : ∀ (fu : Nat) (v26 : Int), L.textpatch_Apply_L1_R text1 v24 v25 fu v26 (K (.exit 0) (bld [1, 2, 5] [.ro .str text1, .cl 0 0, .cl 1 0] 0 53) [.cells [.ro L.T5 p], .cells [.xi m1, .xi m11], .cells [.xi m2, .xi m21], .cells [.xi m3, .xi m31]]) (fun q0_ q1_ => K .ret (bld [4, 5] [.x (.slice none 0 0), .cl 0 0] 0 53) [.cells [.xi q0_, .xi q1_]]) = iterL (stepL (exec Tryd.prog (CC Tryd.prog L.Γ_textpatch_Apply L.Δ_textpatch_Apply) (drawD Tryd.prog L.Γ_textpatch_Apply L.Δ_textpatch_Apply) .leaf (sub [true, true, true, false, true, false, false] (codeOf Tryd.f7))) 4 L.textpatch_Apply_L1_d K) fu (bld L.textpatch_Apply_L1_d.keep [.ro .str text1, .cl 0 0, .cl 1 0, .ro L.T5 v24, .xi v25, .xi v26] 0 53) [.cells [.ro L.T5 p], .cells [.xi m1, .xi m11], .cells [.xi m2, .xi m21], .cells [.xi m3, .xi m31]] := by
  intro fu
  induction fu with
  | zero => intros; rfl
  | succ fu ih =>
    intro v26
    have e : (fun v26 => L.textpatch_Apply_L1_R text1 v24 v25 fu v26 (K (.exit 0) (bld [1, 2, 5] [.ro .str text1, .cl 0 0, .cl 1 0] 0 53) [.cells [.ro L.T5 p], .cells [.xi m1, .xi m11], .cells [.xi m2, .xi m21], .cells [.xi m3, .xi m31]]) (fun q0_ q1_ => K .ret (bld [4, 5] [.x (.slice none 0 0), .cl 0 0] 0 53) [.cells [.xi q0_, .xi q1_]])) = fun v26 => iterL (stepL (exec Tryd.prog (CC Tryd.prog L.Γ_textpatch_Apply L.Δ_textpatch_Apply) (drawD Tryd.prog L.Γ_textpatch_Apply L.Δ_textpatch_Apply) .leaf (sub [true, true, true, false, true, false, false] (codeOf Tryd.f7))) 4 L.textpatch_Apply_L1_d K) fu (bld L.textpatch_Apply_L1_d.keep [.ro .str text1, .cl 0 0, .cl 1 0, .ro L.T5 v24, .xi v25, .xi v26] 0 53) [.cells [.ro L.T5 p], .cells [.xi m1, .xi m11], .cells [.xi m2, .xi m21], .cells [.xi m3, .xi m31]] := by
      funext v26; exact ih v26
    show L.textpatch_Apply_L1_b text1 v24 v25 v26 (fun v26 => L.textpatch_Apply_L1_R text1 v24 v25 fu v26 (K (.exit 0) (bld [1, 2, 5] [.ro .str text1, .cl 0 0, .cl 1 0] 0 53) [.cells [.ro L.T5 p], .cells [.xi m1, .xi m11], .cells [.xi m2, .xi m21], .cells [.xi m3, .xi m31]]) (fun q0_ q1_ => K .ret (bld [4, 5] [.x (.slice none 0 0), .cl 0 0] 0 53) [.cells [.xi q0_, .xi q1_]])) (K (.exit 0) (bld [1, 2, 5] [.ro .str text1, .cl 0 0, .cl 1 0] 0 53) [.cells [.ro L.T5 p], .cells [.xi m1, .xi m11], .cells [.xi m2, .xi m21], .cells [.xi m3, .xi m31]]) (fun q0_ q1_ => K .ret (bld [4, 5] [.x (.slice none 0 0), .cl 0 0] 0 53) [.cells [.xi q0_, .xi q1_]]) = _
    rw [e]
    kernel_rfl
theorem L.textpatch_Apply_L1_imp (vs : List V) (st : List Ob) (K : Ex → St) (h : L.textpatch_Apply_L1_G vs st K) : ∃ fu, iterL (stepL (exec Tryd.prog (CC Tryd.prog L.Γ_textpatch_Apply L.Δ_textpatch_Apply) (drawD Tryd.prog L.Γ_textpatch_Apply L.Δ_textpatch_Apply) .leaf (sub [true, true, true, false, true, false, false] (codeOf Tryd.f7))) 4 L.textpatch_Apply_L1_d K) fu (bld L.textpatch_Apply_L1_d.keep (mkL L.textpatch_Apply_L1_ss 0 vs) 0 53) (mkOs L.textpatch_Apply_L1_os 0 st) :=
  exMap (fun fu h => @Eq.mp _ _ (Eq.trans (L.textpatch_Apply_L1_eq (gR .str (vs.getD 0 .any)) (gR L.T5 (vs.getD 3 .any)) (gI (vs.getD 4 .any)) (gR L.T5 ((oC (st.getD 0 .dead)).getD 0 .any)) (cI st 1 0) (cI st 1 1) (cI st 2 0) (cI st 2 1) (cI st 3 0) (cI st 3 1) K fu (gI (vs.getD 5 .any))) (by kernel_rfl)) h) (L.textpatch_Apply_L1.out h)
theorem L.textpatch_Apply_L1_ok : AnnOk Tryd.prog (CC Tryd.prog L.Γ_textpatch_Apply L.Δ_textpatch_Apply) (drawD Tryd.prog L.Γ_textpatch_Apply L.Δ_textpatch_Apply) 0 (.lift L.textpatch_Apply_L1_d 53 L.textpatch_Apply_L1_F) (.loop (sub [true, true, true, false, true, false, false] (codeOf Tryd.f7))) :=
  lift_ok (an := .leaf) (ss := L.textpatch_Apply_L1_ss) (os := L.textpatch_Apply_L1_os) (G := L.textpatch_Apply_L1_G) rfl (Nat.le_of_ble_eq_true rfl) (annOk_leaf _) (L.textpatch_Apply_L1_imp)
def L.textpatch_Apply_B (p_Hunks : L.T6) (text : (List ByteArray)) (K : (List ByteArray) → Int → Int → Prop) : Prop :=
  L.textpatch_Validate p_Hunks (fun rCode rIndex => (bif (!((rCode == 0) && ((rIndex == 0) && true))) then K ([] : List ByteArray) rCode rIndex else L.lines_Second text (-2) (fun rCode1 rIndex1 => (bif (!((rCode1 == 0) && ((rIndex1 == 0) && true))) then K ([] : List ByteArray) rCode1 rIndex1 else L.textpatch_Apply_L1 text p_Hunks (p_Hunks.length : Int) 0 (L.textpatch_Raw p_Hunks text 0 (text.length : Int) (fun r => (bif (decide ((r.length : Int) > 120)) then K ([] : List ByteArray) 10 (-1) else K r 0 0))) (fun p r1 => K ([] : List ByteArray) p r1)))))
structure L.textpatch_Apply (p_Hunks : L.T6) (text : (List ByteArray)) (K : (List ByteArray) → Int → Int → Prop) : Prop where
  out : L.textpatch_Apply_B p_Hunks text K
def L.textpatch_Apply_ss : List Sh := [.agg [.ro L.T5], .ro .str]
def L.textpatch_Apply_G (vs : List V) (K : V → List Ob → Prop) : Prop := L.textpatch_Apply (gR L.T5 ((gC (vs.getD 0 .any)).getD 0 .any)) (gR .str (vs.getD 1 .any)) (fun r0 r1 r2 => K (.tup [.vec 0, .agg [.xi r1, .xi r2]]) [.vec .str 0 r0])
def L.textpatch_Apply_S : SemF := fun args K => argF L.textpatch_Apply_ss args fun a => L.textpatch_Apply_G a K
theorem L.textpatch_Apply_eq (p_Hunks : L.T6) (text : (List ByteArray)) (K : V → List Ob → Prop) : run Tryd.prog L.Γ_textpatch_Apply L.Δ_textpatch_Apply (.node .leaf (.node .leaf (.node .leaf (.node (.node .leaf (.lift L.textpatch_Apply_L1_d 53 L.textpatch_Apply_L1_F)) .leaf)))) (.tup [.sl .str, .any]) Tryd.f7 [.agg [.ro L.T5 p_Hunks], .ro .str text] K = L.textpatch_Apply_B p_Hunks text (fun r0 r1 r2 => K (.tup [.vec 0, .agg [.xi r1, .xi r2]]) [.vec .str 0 r0]) := by
  kernel_rfl
theorem L.textpatch_Apply_imp (vs : List V) (K : V → List Ob → Prop) : Imp (L.textpatch_Apply_G vs K) (run Tryd.prog L.Γ_textpatch_Apply L.Δ_textpatch_Apply (.node .leaf (.node .leaf (.node .leaf (.node (.node .leaf (.lift L.textpatch_Apply_L1_d 53 L.textpatch_Apply_L1_F)) .leaf)))) (.tup [.sl .str, .any]) Tryd.f7 (mkL L.textpatch_Apply_ss 0 vs) K) :=
  Imp.of (Eq.trans (b := run Tryd.prog L.Γ_textpatch_Apply L.Δ_textpatch_Apply (.node .leaf (.node .leaf (.node .leaf (.node (.node .leaf (.lift L.textpatch_Apply_L1_d 53 L.textpatch_Apply_L1_F)) .leaf)))) (.tup [.sl .str, .any]) Tryd.f7 [.agg [.ro L.T5 (gR L.T5 ((gC (vs.getD 0 .any)).getD 0 .any))], .ro .str (gR .str (vs.getD 1 .any))] K) (by kernel_rfl) (L.textpatch_Apply_eq (gR L.T5 ((gC (vs.getD 0 .any)).getD 0 .any)) (gR .str (vs.getD 1 .any)) K)) fun h => (L.textpatch_Apply.out h)
theorem L.textpatch_Apply_ok : SoundFn Tryd.prog 7 L.textpatch_Apply_S :=
  fn_ok (sem := run Tryd.prog L.Γ_textpatch_Apply L.Δ_textpatch_Apply (.node .leaf (.node .leaf (.node .leaf (.node (.node .leaf (.lift L.textpatch_Apply_L1_d 53 L.textpatch_Apply_L1_F)) .leaf)))) (.tup [.sl .str, .any]) Tryd.f7) (ss := L.textpatch_Apply_ss) (G := L.textpatch_Apply_G) (run_ok L.Γ_textpatch_Apply_ok L.Δ_textpatch_Apply_ok Tryd.func7 (ann := (.node .leaf (.node .leaf (.node .leaf (.node (.node .leaf (.lift L.textpatch_Apply_L1_d 53 L.textpatch_Apply_L1_F)) .leaf))))) ⟨(annOk_leaf _), ⟨(annOk_leaf _), ⟨(annOk_leaf _), ⟨⟨(annOk_leaf _), L.textpatch_Apply_L1_ok⟩, (annOk_leaf _)⟩⟩⟩⟩) L.textpatch_Apply_imp
/-- changeforge/changeforgetop.h11Edit -/
def L.Γ_top_h11Edit_h1 : Ctx := ctxC L.Γ_textpatch_Apply 7 L.textpatch_Apply_S
theorem L.Γ_top_h11Edit_h1_ok : SoundG Tryd.prog L.Γ_top_h11Edit_h1 := ctxC_ok L.Γ_textpatch_Apply_ok L.textpatch_Apply_ok
def L.Δ_top_h11Edit_h1 : CtxO := L.Δ_textpatch_Apply
theorem L.Δ_top_h11Edit_h1_ok : SoundGO Tryd.prog L.Δ_top_h11Edit_h1 := L.Δ_textpatch_Apply_ok
def L.top_h11Edit_h1_B (path : ByteArray) (p : L.T6) (K : (List (Int × (ByteArray × (ByteArray × ((List ByteArray) × L.T6))))) → Prop) : Prop :=
  K ([(4, (path, (L.str1, (([] : List ByteArray), p))))] : List (Int × (ByteArray × (ByteArray × ((List ByteArray) × L.T6)))))
structure L.top_h11Edit_h1 (path : ByteArray) (p : L.T6) (K : (List (Int × (ByteArray × (ByteArray × ((List ByteArray) × L.T6))))) → Prop) : Prop where
  out : L.top_h11Edit_h1_B path p K
def L.top_h11Edit_h1_ss : List Sh := [.str, .agg [.ro L.T5]]
def L.top_h11Edit_h1_os : List OSh := []
def L.top_h11Edit_h1_G (vs : List V) (st : List Ob) (K : V → List Ob → Prop) : Prop := L.top_h11Edit_h1 (gS (vs.getD 0 .any)) (gR L.T5 ((gC (vs.getD 1 .any)).getD 0 .any)) (fun r0 => K (.agg [.vec 0]) [.vec L.T0 0 r0])
def L.top_h11Edit_h1_S : SemO := fun args st K => argO L.top_h11Edit_h1_ss L.top_h11Edit_h1_os args st fun a s => L.top_h11Edit_h1_G a s K
theorem L.top_h11Edit_h1_eq (path : ByteArray) (p : L.T6) (K : V → List Ob → Prop) : runH Tryd.prog L.Γ_top_h11Edit_h1 L.Δ_top_h11Edit_h1 .leaf (.agg [(.sl L.T0)]) [] Tryd.f14 false 0 [.x (.string path), .agg [.ro L.T5 p]] [] K = L.top_h11Edit_h1_B path p (fun r0 => K (.agg [.vec 0]) [.vec L.T0 0 r0]) := by
  kernel_rfl
theorem L.top_h11Edit_h1_imp (vs : List V) (st : List Ob) (K : V → List Ob → Prop) : Imp (L.top_h11Edit_h1_G vs st K) (runH Tryd.prog L.Γ_top_h11Edit_h1 L.Δ_top_h11Edit_h1 .leaf (.agg [(.sl L.T0)]) [] Tryd.f14 false 0 (mkL L.top_h11Edit_h1_ss 0 vs) (mkOs L.top_h11Edit_h1_os 0 st) K) :=
  Imp.of (Eq.trans (b := runH Tryd.prog L.Γ_top_h11Edit_h1 L.Δ_top_h11Edit_h1 .leaf (.agg [(.sl L.T0)]) [] Tryd.f14 false 0 [.x (.string (gS (vs.getD 0 .any))), .agg [.ro L.T5 (gR L.T5 ((gC (vs.getD 1 .any)).getD 0 .any))]] [] K) (by kernel_rfl) (L.top_h11Edit_h1_eq (gS (vs.getD 0 .any)) (gR L.T5 ((gC (vs.getD 1 .any)).getD 0 .any)) K)) fun h => (L.top_h11Edit_h1.out h)
theorem L.top_h11Edit_h1_ok : SoundO Tryd.prog 14 L.top_h11Edit_h1_S :=
  fnO_ok (sem := runH Tryd.prog L.Γ_top_h11Edit_h1 L.Δ_top_h11Edit_h1 .leaf (.agg [(.sl L.T0)]) [] Tryd.f14 false 0) (ss := L.top_h11Edit_h1_ss) (os := L.top_h11Edit_h1_os) (G := L.top_h11Edit_h1_G) (runH_ok L.Γ_top_h11Edit_h1_ok L.Δ_top_h11Edit_h1_ok Tryd.func14 (ann := .leaf) rfl (annOk_leaf _)) L.top_h11Edit_h1_imp
/-- changeforge/treepatch.ValidPath -/
def L.Γ_treepatch_ValidPath : Ctx := L.Γ_top_h11Edit_h1
theorem L.Γ_treepatch_ValidPath_ok : SoundG Tryd.prog L.Γ_treepatch_ValidPath := L.Γ_top_h11Edit_h1_ok
def L.Δ_treepatch_ValidPath : CtxO := ctxE L.Δ_top_h11Edit_h1 14 [.any, .agg [.ro L.T5]] L.top_h11Edit_h1_ss L.top_h11Edit_h1_os L.top_h11Edit_h1_G
theorem L.Δ_treepatch_ValidPath_ok : SoundGO Tryd.prog L.Δ_treepatch_ValidPath := ctxE_ok L.Δ_top_h11Edit_h1_ok L.top_h11Edit_h1_ok
def L.treepatch_ValidPath_B (path : ByteArray) (K : Bool → Prop) : Prop :=
  K (La.vp_R path)
structure L.treepatch_ValidPath (path : ByteArray) (K : Bool → Prop) : Prop where
  out : L.treepatch_ValidPath_B path K
def L.treepatch_ValidPath_ss : List Sh := [.str]
def L.treepatch_ValidPath_G (vs : List V) (K : V → List Ob → Prop) : Prop := L.treepatch_ValidPath (gS (vs.getD 0 .any)) (fun r0 => K (.x (.bool r0)) [])
def L.treepatch_ValidPath_S : SemF := fun args K => argF L.treepatch_ValidPath_ss args fun a => L.treepatch_ValidPath_G a K
theorem L.treepatch_ValidPath_ok : SoundFn Tryd.prog 42 L.treepatch_ValidPath_S := SoundFn.of_imp La.vp_ok fun args K h => argF_mono (fun a h => h.out) h
/-- internal/stringslite.HasPrefix -/
def L.Γ_stringslite_HasPrefix : Ctx := ctxC L.Γ_treepatch_ValidPath 42 L.treepatch_ValidPath_S
theorem L.Γ_stringslite_HasPrefix_ok : SoundG Tryd.prog L.Γ_stringslite_HasPrefix := ctxC_ok L.Γ_treepatch_ValidPath_ok L.treepatch_ValidPath_ok
def L.Δ_stringslite_HasPrefix : CtxO := L.Δ_treepatch_ValidPath
theorem L.Δ_stringslite_HasPrefix_ok : SoundGO Tryd.prog L.Δ_stringslite_HasPrefix := L.Δ_treepatch_ValidPath_ok
def L.stringslite_HasPrefix_B (s : ByteArray) (prefix_ : ByteArray) (K : Bool → Prop) : Prop :=
  ((((decide ((s.size : Int) ≥ (prefix_.size : Int))) == true) = true → 0 ≤ (prefix_.size : Int) ∧ (prefix_.size : Int) ≤ s.size)) ∧ K (bif (decide ((s.size : Int) ≥ (prefix_.size : Int))) then ((s.extract 0 (prefix_.size : Int).toNat).toList == prefix_.toList) else false)
structure L.stringslite_HasPrefix (s : ByteArray) (prefix_ : ByteArray) (K : Bool → Prop) : Prop where
  out : L.stringslite_HasPrefix_B s prefix_ K
def L.stringslite_HasPrefix_ss : List Sh := [.str, .str]
def L.stringslite_HasPrefix_G (vs : List V) (K : V → List Ob → Prop) : Prop := L.stringslite_HasPrefix (gS (vs.getD 0 .any)) (gS (vs.getD 1 .any)) (fun r0 => K (.x (.bool r0)) [])
def L.stringslite_HasPrefix_S : SemF := fun args K => argF L.stringslite_HasPrefix_ss args fun a => L.stringslite_HasPrefix_G a K
theorem L.stringslite_HasPrefix_eq (s : ByteArray) (prefix_ : ByteArray) (K : V → List Ob → Prop) : run Tryd.prog L.Γ_stringslite_HasPrefix L.Δ_stringslite_HasPrefix .leaf .any Tryd.f77 [.x (.string s), .x (.string prefix_)] K = L.stringslite_HasPrefix_B s prefix_ (fun r0 => K (.x (.bool r0)) []) := by
  kernel_rfl
theorem L.stringslite_HasPrefix_imp (vs : List V) (K : V → List Ob → Prop) : Imp (L.stringslite_HasPrefix_G vs K) (run Tryd.prog L.Γ_stringslite_HasPrefix L.Δ_stringslite_HasPrefix .leaf .any Tryd.f77 (mkL L.stringslite_HasPrefix_ss 0 vs) K) :=
  Imp.of (Eq.trans (b := run Tryd.prog L.Γ_stringslite_HasPrefix L.Δ_stringslite_HasPrefix .leaf .any Tryd.f77 [.x (.string (gS (vs.getD 0 .any))), .x (.string (gS (vs.getD 1 .any)))] K) (by kernel_rfl) (L.stringslite_HasPrefix_eq (gS (vs.getD 0 .any)) (gS (vs.getD 1 .any)) K)) fun h => (L.stringslite_HasPrefix.out h)
theorem L.stringslite_HasPrefix_ok : SoundFn Tryd.prog 77 L.stringslite_HasPrefix_S :=
  fn_ok (sem := run Tryd.prog L.Γ_stringslite_HasPrefix L.Δ_stringslite_HasPrefix .leaf .any Tryd.f77) (ss := L.stringslite_HasPrefix_ss) (G := L.stringslite_HasPrefix_G) (run_ok L.Γ_stringslite_HasPrefix_ok L.Δ_stringslite_HasPrefix_ok Tryd.func77 (ann := .leaf) (annOk_leaf _)) L.stringslite_HasPrefix_imp
/-- strings.HasPrefix -/
def L.Γ_strings_HasPrefix : Ctx := ctxC L.Γ_stringslite_HasPrefix 77 L.stringslite_HasPrefix_S
theorem L.Γ_strings_HasPrefix_ok : SoundG Tryd.prog L.Γ_strings_HasPrefix := ctxC_ok L.Γ_stringslite_HasPrefix_ok L.stringslite_HasPrefix_ok
def L.Δ_strings_HasPrefix : CtxO := L.Δ_stringslite_HasPrefix
theorem L.Δ_strings_HasPrefix_ok : SoundGO Tryd.prog L.Δ_strings_HasPrefix := L.Δ_stringslite_HasPrefix_ok
def L.strings_HasPrefix_B (s : ByteArray) (prefix_ : ByteArray) (K : Bool → Prop) : Prop :=
  L.stringslite_HasPrefix s prefix_ (fun r => K r)
structure L.strings_HasPrefix (s : ByteArray) (prefix_ : ByteArray) (K : Bool → Prop) : Prop where
  out : L.strings_HasPrefix_B s prefix_ K
def L.strings_HasPrefix_ss : List Sh := [.str, .str]
def L.strings_HasPrefix_G (vs : List V) (K : V → List Ob → Prop) : Prop := L.strings_HasPrefix (gS (vs.getD 0 .any)) (gS (vs.getD 1 .any)) (fun r0 => K (.x (.bool r0)) [])
def L.strings_HasPrefix_S : SemF := fun args K => argF L.strings_HasPrefix_ss args fun a => L.strings_HasPrefix_G a K
theorem L.strings_HasPrefix_eq (s : ByteArray) (prefix_ : ByteArray) (K : V → List Ob → Prop) : run Tryd.prog L.Γ_strings_HasPrefix L.Δ_strings_HasPrefix .leaf .any Tryd.f69 [.x (.string s), .x (.string prefix_)] K = L.strings_HasPrefix_B s prefix_ (fun r0 => K (.x (.bool r0)) []) := by
  kernel_rfl
theorem L.strings_HasPrefix_imp (vs : List V) (K : V → List Ob → Prop) : Imp (L.strings_HasPrefix_G vs K) (run Tryd.prog L.Γ_strings_HasPrefix L.Δ_strings_HasPrefix .leaf .any Tryd.f69 (mkL L.strings_HasPrefix_ss 0 vs) K) :=
  Imp.of (Eq.trans (b := run Tryd.prog L.Γ_strings_HasPrefix L.Δ_strings_HasPrefix .leaf .any Tryd.f69 [.x (.string (gS (vs.getD 0 .any))), .x (.string (gS (vs.getD 1 .any)))] K) (by kernel_rfl) (L.strings_HasPrefix_eq (gS (vs.getD 0 .any)) (gS (vs.getD 1 .any)) K)) fun h => (L.strings_HasPrefix.out h)
theorem L.strings_HasPrefix_ok : SoundFn Tryd.prog 69 L.strings_HasPrefix_S :=
  fn_ok (sem := run Tryd.prog L.Γ_strings_HasPrefix L.Δ_strings_HasPrefix .leaf .any Tryd.f69) (ss := L.strings_HasPrefix_ss) (G := L.strings_HasPrefix_G) (run_ok L.Γ_strings_HasPrefix_ok L.Δ_strings_HasPrefix_ok Tryd.func69 (ann := .leaf) (annOk_leaf _)) L.strings_HasPrefix_imp
/-- changeforge/treepatch.Related -/
def L.Γ_treepatch_Related : Ctx := ctxC L.Γ_strings_HasPrefix 69 L.strings_HasPrefix_S
theorem L.Γ_treepatch_Related_ok : SoundG Tryd.prog L.Γ_treepatch_Related := ctxC_ok L.Γ_strings_HasPrefix_ok L.strings_HasPrefix_ok
def L.Δ_treepatch_Related : CtxO := L.Δ_strings_HasPrefix
theorem L.Δ_treepatch_Related_ok : SoundGO Tryd.prog L.Δ_treepatch_Related := L.Δ_strings_HasPrefix_ok
def L.treepatch_Related_B (a : ByteArray) (b : ByteArray) (K : Bool → Prop) : Prop :=
  ((((a.toList == b.toList) == false) = true → ((b.size + L.str5.size : Nat) : Int) ≤ IntKind.i64.max)) ∧ (bif (a.toList == b.toList) then (((true == false) = true → ((a.size + L.str5.size : Nat) : Int) ≤ IntKind.i64.max)) ∧ K true else L.strings_HasPrefix a (b ++ L.str5) (fun r => ((((bif false then true else r) == false) = true → ((a.size + L.str5.size : Nat) : Int) ≤ IntKind.i64.max)) ∧ (bif (bif false then true else r) then K true else L.strings_HasPrefix b (a ++ L.str5) (fun r1 => K (bif false then true else r1)))))
structure L.treepatch_Related (a : ByteArray) (b : ByteArray) (K : Bool → Prop) : Prop where
  out : L.treepatch_Related_B a b K
def L.treepatch_Related_ss : List Sh := [.str, .str]
def L.treepatch_Related_G (vs : List V) (K : V → List Ob → Prop) : Prop := L.treepatch_Related (gS (vs.getD 0 .any)) (gS (vs.getD 1 .any)) (fun r0 => K (.x (.bool r0)) [])
def L.treepatch_Related_S : SemF := fun args K => argF L.treepatch_Related_ss args fun a => L.treepatch_Related_G a K
theorem L.treepatch_Related_eq (a : ByteArray) (b : ByteArray) (K : V → List Ob → Prop) : run Tryd.prog L.Γ_treepatch_Related L.Δ_treepatch_Related .leaf .any Tryd.f61 [.x (.string a), .x (.string b)] K = L.treepatch_Related_B a b (fun r0 => K (.x (.bool r0)) []) := by
  kernel_rfl
theorem L.treepatch_Related_imp (vs : List V) (K : V → List Ob → Prop) : Imp (L.treepatch_Related_G vs K) (run Tryd.prog L.Γ_treepatch_Related L.Δ_treepatch_Related .leaf .any Tryd.f61 (mkL L.treepatch_Related_ss 0 vs) K) :=
  Imp.of (Eq.trans (b := run Tryd.prog L.Γ_treepatch_Related L.Δ_treepatch_Related .leaf .any Tryd.f61 [.x (.string (gS (vs.getD 0 .any))), .x (.string (gS (vs.getD 1 .any)))] K) (by kernel_rfl) (L.treepatch_Related_eq (gS (vs.getD 0 .any)) (gS (vs.getD 1 .any)) K)) fun h => (L.treepatch_Related.out h)
theorem L.treepatch_Related_ok : SoundFn Tryd.prog 61 L.treepatch_Related_S :=
  fn_ok (sem := run Tryd.prog L.Γ_treepatch_Related L.Δ_treepatch_Related .leaf .any Tryd.f61) (ss := L.treepatch_Related_ss) (G := L.treepatch_Related_G) (run_ok L.Γ_treepatch_Related_ok L.Δ_treepatch_Related_ok Tryd.func61 (ann := .leaf) (annOk_leaf _)) L.treepatch_Related_imp
/-- changeforge/treepatch.check -/
def L.Γ_treepatch_check : Ctx := ctxC L.Γ_treepatch_Related 61 L.treepatch_Related_S
theorem L.Γ_treepatch_check_ok : SoundG Tryd.prog L.Γ_treepatch_check := ctxC_ok L.Γ_treepatch_Related_ok L.treepatch_Related_ok
def L.Δ_treepatch_check : CtxO := L.Δ_treepatch_Related
theorem L.Δ_treepatch_check_ok : SoundGO Tryd.prog L.Δ_treepatch_check := L.Δ_treepatch_Related_ok
def L.treepatch_check_J1_B (c3 : (List ByteArray)) (c4 : L.T6) (Kr : Int → Prop) : Prop :=
  L.lines_Validate c3 (fun rCode rIndex => (bif (!((rCode == 0) && ((rIndex == 0) && true))) then Kr rCode else L.textpatch_Validate c4 (fun rCode1 rIndex1 => Kr rCode1)))
structure L.treepatch_check_J1 (c3 : (List ByteArray)) (c4 : L.T6) (Kr : Int → Prop) : Prop where
  out : L.treepatch_check_J1_B c3 c4 Kr
def L.treepatch_check_J1_d : CutD := { base := 1, vecs := [], flds := [], keep := [1], out := [], rets := [2], ovecs := [], oflds := [], rv := [], rbase := 0 }
def L.treepatch_check_J1_ss : List Sh := [.cl 0 0]
def L.treepatch_check_J1_os : List OSh := [.cells [.int .i64, .str, .str, .ro .str, .ro L.T5]]
def L.treepatch_check_J1_G (vs : List V) (st : List Ob) (K : Ex → St) : Prop := L.treepatch_check_J1 (gR .str ((oC (st.getD 0 .dead)).getD 3 .any)) (gR L.T5 ((oC (st.getD 0 .dead)).getD 4 .any)) (fun q0_ => K .ret (bld [2] [.xi q0_] 0 84) [])
def L.treepatch_check_J1_F (vs : List V) (st : List Ob) (K : Ex → St) : Prop := fitF L.treepatch_check_J1_ss L.treepatch_check_J1_os vs st (L.treepatch_check_J1_G vs st K)
theorem L.treepatch_check_J1_eq (c : Int) (c1 : ByteArray) (c2 : ByteArray) (c3 : (List ByteArray)) (c4 : L.T6) (K : Ex → St) : L.treepatch_check_J1_B c3 c4 (fun q0_ => K .ret (bld [2] [.xi q0_] 0 84) []) = exec Tryd.prog (CC Tryd.prog L.Γ_treepatch_check L.Δ_treepatch_check) (drawD Tryd.prog L.Γ_treepatch_check L.Δ_treepatch_check) .leaf (sub [true, true, true] (codeOf Tryd.f52)) (bld L.treepatch_check_J1_d.keep [.cl 0 0] 0 84) [.cells [.xi c, .x (.string c1), .x (.string c2), .ro .str c3, .ro L.T5 c4]] (cutK L.treepatch_check_J1_d K) := by
  kernel_rfl
theorem L.treepatch_check_J1_ok (vs : List V) (st : List Ob) (K : Ex → St) : Imp (L.treepatch_check_J1_G vs st K) (exec Tryd.prog (CC Tryd.prog L.Γ_treepatch_check L.Δ_treepatch_check) (drawD Tryd.prog L.Γ_treepatch_check L.Δ_treepatch_check) .leaf (sub [true, true, true] (codeOf Tryd.f52)) (bld L.treepatch_check_J1_d.keep (mkL L.treepatch_check_J1_ss 0 vs) 0 84) (mkOs L.treepatch_check_J1_os 0 st) (cutK L.treepatch_check_J1_d K)) :=
  Imp.of (Eq.trans (b := exec Tryd.prog (CC Tryd.prog L.Γ_treepatch_check L.Δ_treepatch_check) (drawD Tryd.prog L.Γ_treepatch_check L.Δ_treepatch_check) .leaf (sub [true, true, true] (codeOf Tryd.f52)) (bld L.treepatch_check_J1_d.keep [.cl 0 0] 0 84) [.cells [.xi (cI st 0 0), .x (.string (gS ((oC (st.getD 0 .dead)).getD 1 .any))), .x (.string (gS ((oC (st.getD 0 .dead)).getD 2 .any))), .ro .str (gR .str ((oC (st.getD 0 .dead)).getD 3 .any)), .ro L.T5 (gR L.T5 ((oC (st.getD 0 .dead)).getD 4 .any))]] (cutK L.treepatch_check_J1_d K)) (by kernel_rfl) (Eq.symm (L.treepatch_check_J1_eq (cI st 0 0) (gS ((oC (st.getD 0 .dead)).getD 1 .any)) (gS ((oC (st.getD 0 .dead)).getD 2 .any)) (gR .str ((oC (st.getD 0 .dead)).getD 3 .any)) (gR L.T5 ((oC (st.getD 0 .dead)).getD 4 .any)) K))) fun h => (L.treepatch_check_J1.out h)
def L.treepatch_check_J3_B (edit1 : Bool) (rename1 : Bool) (v35 : Bool) (c8 : (List ByteArray)) (c9 : L.T6) (Kn : Prop) (Kr : Int → Prop) : Prop :=
  (bif v35 then Kr 5 else (bif (bif (decide ((c8.length : Int) > 0)) then (bif edit1 then true else rename1) else false) then Kr 5 else (bif (!(edit1 == (decide ((c9.length : Int) > 0)))) then Kr 5 else Kn)))
structure L.treepatch_check_J3 (edit1 : Bool) (rename1 : Bool) (v35 : Bool) (c8 : (List ByteArray)) (c9 : L.T6) (Kn : Prop) (Kr : Int → Prop) : Prop where
  out : L.treepatch_check_J3_B edit1 rename1 v35 c8 c9 Kn Kr
def L.treepatch_check_J3_d : CutD := { base := 1, vecs := [], flds := [], keep := [1, 3, 4, 35], out := [1], rets := [2], ovecs := [], oflds := [], rv := [], rbase := 1 }
def L.treepatch_check_J3_ss : List Sh := [.cl 0 0, .bool, .bool, .bool]
def L.treepatch_check_J3_os : List OSh := [.cells [.int .i64, .str, .str, .ro .str, .ro L.T5]]
def L.treepatch_check_J3_G (vs : List V) (st : List Ob) (K : Ex → St) : Prop := L.treepatch_check_J3 (gB (vs.getD 1 .any)) (gB (vs.getD 2 .any)) (gB (vs.getD 3 .any)) (gR .str ((oC (st.getD 0 .dead)).getD 3 .any)) (gR L.T5 ((oC (st.getD 0 .dead)).getD 4 .any)) (K .normal (bld [1] [.cl 0 0] 0 84) [.cells [.xi (cI st 0 0), .x (.string (gS ((oC (st.getD 0 .dead)).getD 1 .any))), .x (.string (gS ((oC (st.getD 0 .dead)).getD 2 .any))), .ro .str (gR .str ((oC (st.getD 0 .dead)).getD 3 .any)), .ro L.T5 (gR L.T5 ((oC (st.getD 0 .dead)).getD 4 .any))]]) (fun q0_ => K .ret (bld [2] [.xi q0_] 0 84) [.cells [.xi (cI st 0 0), .x (.string (gS ((oC (st.getD 0 .dead)).getD 1 .any))), .x (.string (gS ((oC (st.getD 0 .dead)).getD 2 .any))), .ro .str (gR .str ((oC (st.getD 0 .dead)).getD 3 .any)), .ro L.T5 (gR L.T5 ((oC (st.getD 0 .dead)).getD 4 .any))]])
def L.treepatch_check_J3_F (vs : List V) (st : List Ob) (K : Ex → St) : Prop := fitF L.treepatch_check_J3_ss L.treepatch_check_J3_os vs st (L.treepatch_check_J3_G vs st K)
theorem L.treepatch_check_J3_eq (edit1 : Bool) (rename1 : Bool) (v35 : Bool) (c5 : Int) (c6 : ByteArray) (c7 : ByteArray) (c8 : (List ByteArray)) (c9 : L.T6) (K : Ex → St) : L.treepatch_check_J3_B edit1 rename1 v35 c8 c9 (K .normal (bld [1] [.cl 0 0] 0 84) [.cells [.xi c5, .x (.string c6), .x (.string c7), .ro .str c8, .ro L.T5 c9]]) (fun q0_ => K .ret (bld [2] [.xi q0_] 0 84) [.cells [.xi c5, .x (.string c6), .x (.string c7), .ro .str c8, .ro L.T5 c9]]) = exec Tryd.prog (CC Tryd.prog L.Γ_treepatch_check L.Δ_treepatch_check) (drawD Tryd.prog L.Γ_treepatch_check L.Δ_treepatch_check) .leaf (sub [true, true, false, false, true, true, true, true, true] (codeOf Tryd.f52)) (bld L.treepatch_check_J3_d.keep [.cl 0 0, .x (.bool edit1), .x (.bool rename1), .x (.bool v35)] 0 84) [.cells [.xi c5, .x (.string c6), .x (.string c7), .ro .str c8, .ro L.T5 c9]] (cutK L.treepatch_check_J3_d K) := by
  kernel_rfl
theorem L.treepatch_check_J3_ok (vs : List V) (st : List Ob) (K : Ex → St) : Imp (L.treepatch_check_J3_G vs st K) (exec Tryd.prog (CC Tryd.prog L.Γ_treepatch_check L.Δ_treepatch_check) (drawD Tryd.prog L.Γ_treepatch_check L.Δ_treepatch_check) .leaf (sub [true, true, false, false, true, true, true, true, true] (codeOf Tryd.f52)) (bld L.treepatch_check_J3_d.keep (mkL L.treepatch_check_J3_ss 0 vs) 0 84) (mkOs L.treepatch_check_J3_os 0 st) (cutK L.treepatch_check_J3_d K)) :=
  Imp.of (Eq.trans (b := exec Tryd.prog (CC Tryd.prog L.Γ_treepatch_check L.Δ_treepatch_check) (drawD Tryd.prog L.Γ_treepatch_check L.Δ_treepatch_check) .leaf (sub [true, true, false, false, true, true, true, true, true] (codeOf Tryd.f52)) (bld L.treepatch_check_J3_d.keep [.cl 0 0, .x (.bool (gB (vs.getD 1 .any))), .x (.bool (gB (vs.getD 2 .any))), .x (.bool (gB (vs.getD 3 .any)))] 0 84) [.cells [.xi (cI st 0 0), .x (.string (gS ((oC (st.getD 0 .dead)).getD 1 .any))), .x (.string (gS ((oC (st.getD 0 .dead)).getD 2 .any))), .ro .str (gR .str ((oC (st.getD 0 .dead)).getD 3 .any)), .ro L.T5 (gR L.T5 ((oC (st.getD 0 .dead)).getD 4 .any))]] (cutK L.treepatch_check_J3_d K)) (by kernel_rfl) (Eq.symm (L.treepatch_check_J3_eq (gB (vs.getD 1 .any)) (gB (vs.getD 2 .any)) (gB (vs.getD 3 .any)) (cI st 0 0) (gS ((oC (st.getD 0 .dead)).getD 1 .any)) (gS ((oC (st.getD 0 .dead)).getD 2 .any)) (gR .str ((oC (st.getD 0 .dead)).getD 3 .any)) (gR L.T5 ((oC (st.getD 0 .dead)).getD 4 .any)) K))) fun h => (L.treepatch_check_J3.out h)
def L.treepatch_check_J2_B (edit : Bool) (rename : Bool) (v21 : Bool) (c1 : ByteArray) (c2 : ByteArray) (c3 : (List ByteArray)) (c4 : L.T6) (Kn : Prop) (Kr : Int → Prop) : Prop :=
  (bif v21 then Kr 12 else (bif (bif (!rename) then (!(c2.toList == L.str1.toList)) else false) then L.treepatch_check_J3 edit rename true c3 c4 (Kn) Kr else (bif rename then L.treepatch_Related c1 c2 (fun r1 => L.treepatch_check_J3 edit rename (bif false then true else (bif true then r1 else false)) c3 c4 (Kn) Kr) else L.treepatch_check_J3 edit rename (bif false then true else false) c3 c4 (Kn) Kr)))
structure L.treepatch_check_J2 (edit : Bool) (rename : Bool) (v21 : Bool) (c1 : ByteArray) (c2 : ByteArray) (c3 : (List ByteArray)) (c4 : L.T6) (Kn : Prop) (Kr : Int → Prop) : Prop where
  out : L.treepatch_check_J2_B edit rename v21 c1 c2 c3 c4 Kn Kr
def L.treepatch_check_J2_d : CutD := { base := 1, vecs := [], flds := [], keep := [1, 3, 4, 21], out := [1], rets := [2], ovecs := [], oflds := [], rv := [], rbase := 0 }
def L.treepatch_check_J2_ss : List Sh := [.cl 0 0, .bool, .bool, .bool]
def L.treepatch_check_J2_os : List OSh := [.cells [.int .i64, .str, .str, .ro .str, .ro L.T5]]
def L.treepatch_check_J2_G (vs : List V) (st : List Ob) (K : Ex → St) : Prop := L.treepatch_check_J2 (gB (vs.getD 1 .any)) (gB (vs.getD 2 .any)) (gB (vs.getD 3 .any)) (gS ((oC (st.getD 0 .dead)).getD 1 .any)) (gS ((oC (st.getD 0 .dead)).getD 2 .any)) (gR .str ((oC (st.getD 0 .dead)).getD 3 .any)) (gR L.T5 ((oC (st.getD 0 .dead)).getD 4 .any)) (K .normal (bld [1] [.cl 0 0] 0 84) [.cells [.xi (cI st 0 0), .x (.string (gS ((oC (st.getD 0 .dead)).getD 1 .any))), .x (.string (gS ((oC (st.getD 0 .dead)).getD 2 .any))), .ro .str (gR .str ((oC (st.getD 0 .dead)).getD 3 .any)), .ro L.T5 (gR L.T5 ((oC (st.getD 0 .dead)).getD 4 .any))]]) (fun q0_ => K .ret (bld [2] [.xi q0_] 0 84) [])
def L.treepatch_check_J2_F (vs : List V) (st : List Ob) (K : Ex → St) : Prop := fitF L.treepatch_check_J2_ss L.treepatch_check_J2_os vs st (L.treepatch_check_J2_G vs st K)
theorem L.treepatch_check_J2_eq (edit : Bool) (rename : Bool) (v21 : Bool) (c : Int) (c1 : ByteArray) (c2 : ByteArray) (c3 : (List ByteArray)) (c4 : L.T6) (K : Ex → St) : L.treepatch_check_J2_B edit rename v21 c1 c2 c3 c4 (K .normal (bld [1] [.cl 0 0] 0 84) [.cells [.xi c, .x (.string c1), .x (.string c2), .ro .str c3, .ro L.T5 c4]]) (fun q0_ => K .ret (bld [2] [.xi q0_] 0 84) []) = exec Tryd.prog (CC Tryd.prog L.Γ_treepatch_check L.Δ_treepatch_check) (drawD Tryd.prog L.Γ_treepatch_check L.Δ_treepatch_check) (.node .leaf (.cut .leaf L.treepatch_check_J3_d 84 L.treepatch_check_J3_F)) (sub [true, true, false, false, true, true, true] (codeOf Tryd.f52)) (bld L.treepatch_check_J2_d.keep [.cl 0 0, .x (.bool edit), .x (.bool rename), .x (.bool v21)] 0 84) [.cells [.xi c, .x (.string c1), .x (.string c2), .ro .str c3, .ro L.T5 c4]] (cutK L.treepatch_check_J2_d K) := by
  kernel_rfl
theorem L.treepatch_check_J2_ok (vs : List V) (st : List Ob) (K : Ex → St) : Imp (L.treepatch_check_J2_G vs st K) (exec Tryd.prog (CC Tryd.prog L.Γ_treepatch_check L.Δ_treepatch_check) (drawD Tryd.prog L.Γ_treepatch_check L.Δ_treepatch_check) (.node .leaf (.cut .leaf L.treepatch_check_J3_d 84 L.treepatch_check_J3_F)) (sub [true, true, false, false, true, true, true] (codeOf Tryd.f52)) (bld L.treepatch_check_J2_d.keep (mkL L.treepatch_check_J2_ss 0 vs) 0 84) (mkOs L.treepatch_check_J2_os 0 st) (cutK L.treepatch_check_J2_d K)) :=
  Imp.of (Eq.trans (b := exec Tryd.prog (CC Tryd.prog L.Γ_treepatch_check L.Δ_treepatch_check) (drawD Tryd.prog L.Γ_treepatch_check L.Δ_treepatch_check) (.node .leaf (.cut .leaf L.treepatch_check_J3_d 84 L.treepatch_check_J3_F)) (sub [true, true, false, false, true, true, true] (codeOf Tryd.f52)) (bld L.treepatch_check_J2_d.keep [.cl 0 0, .x (.bool (gB (vs.getD 1 .any))), .x (.bool (gB (vs.getD 2 .any))), .x (.bool (gB (vs.getD 3 .any)))] 0 84) [.cells [.xi (cI st 0 0), .x (.string (gS ((oC (st.getD 0 .dead)).getD 1 .any))), .x (.string (gS ((oC (st.getD 0 .dead)).getD 2 .any))), .ro .str (gR .str ((oC (st.getD 0 .dead)).getD 3 .any)), .ro L.T5 (gR L.T5 ((oC (st.getD 0 .dead)).getD 4 .any))]] (cutK L.treepatch_check_J2_d K)) (by kernel_rfl) (Eq.symm (L.treepatch_check_J2_eq (gB (vs.getD 1 .any)) (gB (vs.getD 2 .any)) (gB (vs.getD 3 .any)) (cI st 0 0) (gS ((oC (st.getD 0 .dead)).getD 1 .any)) (gS ((oC (st.getD 0 .dead)).getD 2 .any)) (gR .str ((oC (st.getD 0 .dead)).getD 3 .any)) (gR L.T5 ((oC (st.getD 0 .dead)).getD 4 .any)) K))) fun h => (L.treepatch_check_J2.out h)
def L.treepatch_check_B (c_Kind : Int) (c_Path : ByteArray) (c_To : ByteArray) (c_Lines : (List ByteArray)) (c_Patch_Hunks : L.T6) (K : Int → Prop) : Prop :=
  (bif (bif (decide (c_Kind < 1)) then true else (decide (c_Kind > 4))) then K 4 else L.treepatch_ValidPath c_Path (fun r => (bif (!r) then L.treepatch_check_J2 (c_Kind == 4) (c_Kind == 3) true c_Path c_To c_Lines c_Patch_Hunks (L.treepatch_check_J1 c_Lines c_Patch_Hunks K) K else (bif (c_Kind == 3) then L.treepatch_ValidPath c_To (fun r1 => L.treepatch_check_J2 (c_Kind == 4) (c_Kind == 3) (bif false then true else (bif true then (!r1) else false)) c_Path c_To c_Lines c_Patch_Hunks (L.treepatch_check_J1 c_Lines c_Patch_Hunks K) K) else L.treepatch_check_J2 (c_Kind == 4) (c_Kind == 3) (bif false then true else false) c_Path c_To c_Lines c_Patch_Hunks (L.treepatch_check_J1 c_Lines c_Patch_Hunks K) K))))
structure L.treepatch_check (c_Kind : Int) (c_Path : ByteArray) (c_To : ByteArray) (c_Lines : (List ByteArray)) (c_Patch_Hunks : L.T6) (K : Int → Prop) : Prop where
  out : L.treepatch_check_B c_Kind c_Path c_To c_Lines c_Patch_Hunks K
def L.treepatch_check_ss : List Sh := [.agg [.int .i64, .str, .str, .ro .str, .ro L.T5]]
def L.treepatch_check_G (vs : List V) (K : V → List Ob → Prop) : Prop := L.treepatch_check (gI ((gC (vs.getD 0 .any)).getD 0 .any)) (gS ((gC (vs.getD 0 .any)).getD 1 .any)) (gS ((gC (vs.getD 0 .any)).getD 2 .any)) (gR .str ((gC (vs.getD 0 .any)).getD 3 .any)) (gR L.T5 ((gC (vs.getD 0 .any)).getD 4 .any)) (fun r0 => K (.xi r0) [])
def L.treepatch_check_S : SemF := fun args K => argF L.treepatch_check_ss args fun a => L.treepatch_check_G a K
theorem L.treepatch_check_eq (c_Kind : Int) (c_Path : ByteArray) (c_To : ByteArray) (c_Lines : (List ByteArray)) (c_Patch_Hunks : L.T6) (K : V → List Ob → Prop) : run Tryd.prog L.Γ_treepatch_check L.Δ_treepatch_check (.node .leaf (.node .leaf (.cut (.node .leaf (.node .leaf (.cut .leaf L.treepatch_check_J2_d 84 L.treepatch_check_J2_F))) L.treepatch_check_J1_d 84 L.treepatch_check_J1_F))) .any Tryd.f52 [.agg [.xi c_Kind, .x (.string c_Path), .x (.string c_To), .ro .str c_Lines, .ro L.T5 c_Patch_Hunks]] K = L.treepatch_check_B c_Kind c_Path c_To c_Lines c_Patch_Hunks (fun r0 => K (.xi r0) []) := by
  kernel_rfl
theorem L.treepatch_check_imp (vs : List V) (K : V → List Ob → Prop) : Imp (L.treepatch_check_G vs K) (run Tryd.prog L.Γ_treepatch_check L.Δ_treepatch_check (.node .leaf (.node .leaf (.cut (.node .leaf (.node .leaf (.cut .leaf L.treepatch_check_J2_d 84 L.treepatch_check_J2_F))) L.treepatch_check_J1_d 84 L.treepatch_check_J1_F))) .any Tryd.f52 (mkL L.treepatch_check_ss 0 vs) K) :=
  Imp.of (Eq.trans (b := run Tryd.prog L.Γ_treepatch_check L.Δ_treepatch_check (.node .leaf (.node .leaf (.cut (.node .leaf (.node .leaf (.cut .leaf L.treepatch_check_J2_d 84 L.treepatch_check_J2_F))) L.treepatch_check_J1_d 84 L.treepatch_check_J1_F))) .any Tryd.f52 [.agg [.xi (gI ((gC (vs.getD 0 .any)).getD 0 .any)), .x (.string (gS ((gC (vs.getD 0 .any)).getD 1 .any))), .x (.string (gS ((gC (vs.getD 0 .any)).getD 2 .any))), .ro .str (gR .str ((gC (vs.getD 0 .any)).getD 3 .any)), .ro L.T5 (gR L.T5 ((gC (vs.getD 0 .any)).getD 4 .any))]] K) (by kernel_rfl) (L.treepatch_check_eq (gI ((gC (vs.getD 0 .any)).getD 0 .any)) (gS ((gC (vs.getD 0 .any)).getD 1 .any)) (gS ((gC (vs.getD 0 .any)).getD 2 .any)) (gR .str ((gC (vs.getD 0 .any)).getD 3 .any)) (gR L.T5 ((gC (vs.getD 0 .any)).getD 4 .any)) K)) fun h => (L.treepatch_check.out h)
theorem L.treepatch_check_ok : SoundFn Tryd.prog 52 L.treepatch_check_S :=
  fn_ok (sem := run Tryd.prog L.Γ_treepatch_check L.Δ_treepatch_check (.node .leaf (.node .leaf (.cut (.node .leaf (.node .leaf (.cut .leaf L.treepatch_check_J2_d 84 L.treepatch_check_J2_F))) L.treepatch_check_J1_d 84 L.treepatch_check_J1_F))) .any Tryd.f52) (ss := L.treepatch_check_ss) (G := L.treepatch_check_G) (run_ok L.Γ_treepatch_check_ok L.Δ_treepatch_check_ok Tryd.func52 (ann := (.node .leaf (.node .leaf (.cut (.node .leaf (.node .leaf (.cut .leaf L.treepatch_check_J2_d 84 L.treepatch_check_J2_F))) L.treepatch_check_J1_d 84 L.treepatch_check_J1_F)))) ⟨(annOk_leaf _), ⟨(annOk_leaf _), (cut_ok (ay := .leaf) (ss := L.treepatch_check_J1_ss) (os := L.treepatch_check_J1_os) (G := L.treepatch_check_J1_G) rfl ⟨(annOk_leaf _), ⟨(annOk_leaf _), (cut_ok (ay := (.node .leaf (.cut .leaf L.treepatch_check_J3_d 84 L.treepatch_check_J3_F))) (ss := L.treepatch_check_J2_ss) (os := L.treepatch_check_J2_os) (G := L.treepatch_check_J2_G) rfl (annOk_leaf _) (Nat.le_of_ble_eq_true rfl) (Nat.le_of_ble_eq_true rfl) ⟨(annOk_leaf _), (cut_ok (ay := .leaf) (ss := L.treepatch_check_J3_ss) (os := L.treepatch_check_J3_os) (G := L.treepatch_check_J3_G) rfl (annOk_leaf _) (Nat.le_of_ble_eq_true rfl) (Nat.le_of_ble_eq_true rfl) (annOk_leaf _) L.treepatch_check_J3_ok)⟩ L.treepatch_check_J2_ok)⟩⟩ (Nat.le_of_ble_eq_true rfl) (Nat.le_of_ble_eq_true rfl) (annOk_leaf _) L.treepatch_check_J1_ok)⟩⟩) L.treepatch_check_imp
/-- changeforge/treepatch.ValidatePatch -/
def L.Γ_treepatch_ValidatePatch : Ctx := ctxC L.Γ_treepatch_check 52 L.treepatch_check_S
theorem L.Γ_treepatch_ValidatePatch_ok : SoundG Tryd.prog L.Γ_treepatch_ValidatePatch := ctxC_ok L.Γ_treepatch_check_ok L.treepatch_check_ok
def L.Δ_treepatch_ValidatePatch : CtxO := L.Δ_treepatch_check
theorem L.Δ_treepatch_ValidatePatch_ok : SoundGO Tryd.prog L.Δ_treepatch_ValidatePatch := L.Δ_treepatch_check_ok
def L.treepatch_ValidatePatch_L1_b (v12 : (List (Int × (ByteArray × (ByteArray × ((List ByteArray) × L.T6)))))) (v13 : Int) (v14 : Int) (self : Int → Prop) (Kx0 : Prop) (Kr : Int → Int → Prop) : Prop :=
  (bif (decide (v14 < v13)) then (inB v14 v12.length) ∧ L.treepatch_check ((v12.getD v14.toNat (0, (ByteArray.empty, (ByteArray.empty, ([], []))))).1) ((v12.getD v14.toNat (0, (ByteArray.empty, (ByteArray.empty, ([], []))))).2.1) ((v12.getD v14.toNat (0, (ByteArray.empty, (ByteArray.empty, ([], []))))).2.2.1) ((v12.getD v14.toNat (0, (ByteArray.empty, (ByteArray.empty, ([], []))))).2.2.2.1) ((v12.getD v14.toNat (0, (ByteArray.empty, (ByteArray.empty, ([], []))))).2.2.2.2) (fun r => (bif (r != 0) then Kr r v14 else self (i64 (v14 + 1)))) else Kx0)
def L.treepatch_ValidatePatch_L1_R (v12 : (List (Int × (ByteArray × (ByteArray × ((List ByteArray) × L.T6)))))) (v13 : Int) : Nat → Int → (Prop) → (Int → Int → Prop) → Prop
  | 0, _, _, _ => False
  | fu + 1, v14, Kx0, Kr => L.treepatch_ValidatePatch_L1_b v12 v13 v14 (fun v14 => L.treepatch_ValidatePatch_L1_R v12 v13 fu v14 Kx0 Kr) Kx0 Kr
structure L.treepatch_ValidatePatch_L1 (v12 : (List (Int × (ByteArray × (ByteArray × ((List ByteArray) × L.T6)))))) (v13 : Int) (v14 : Int) (Kx0 : Prop) (Kr : Int → Int → Prop) : Prop where
  out : ∃ fu, L.treepatch_ValidatePatch_L1_R v12 v13 fu v14 Kx0 Kr
def L.treepatch_ValidatePatch_L1_d : LoopD := { base := 2, vecs := [], flds := [], keep := [2, 12, 13, 14], out := [2], rets := [2], rv := [], rbase := 0 }
def L.treepatch_ValidatePatch_L1_ss : List Sh := [.cl 1 0, .ro L.T0, .int .i64, .int .i64]
def L.treepatch_ValidatePatch_L1_os : List OSh := [.cells [.ro L.T0], .cells [.int .i64, .int .i64]]
def L.treepatch_ValidatePatch_L1_G (vs : List V) (st : List Ob) (K : Ex → St) : Prop := L.treepatch_ValidatePatch_L1 (gR L.T0 (vs.getD 1 .any)) (gI (vs.getD 2 .any)) (gI (vs.getD 3 .any)) (K (.exit 0) (bld [2] [.cl 1 0] 0 28) [.cells [.ro L.T0 (gR L.T0 ((oC (st.getD 0 .dead)).getD 0 .any))], .cells [.xi (cI st 1 0), .xi (cI st 1 1)]]) (fun q0_ q1_ => K .ret (bld [2] [.cl 0 0] 0 28) [.cells [.xi q0_, .xi q1_]])
def L.treepatch_ValidatePatch_L1_F (vs : List V) (st : List Ob) (K : Ex → St) : Prop := fitF L.treepatch_ValidatePatch_L1_ss L.treepatch_ValidatePatch_L1_os vs st (L.treepatch_ValidatePatch_L1_G vs st K)
theorem L.treepatch_ValidatePatch_L1_eq (v12 : (List (Int × (ByteArray × (ByteArray × ((List ByteArray) × L.T6)))))) (v13 : Int) (m0 : (List (Int × (ByteArray × (ByteArray × ((List ByteArray) × L.T6)))))) (m1 : Int) (m11 : Int) (K : Ex → St) : ∀ (fu : Nat) (v14 : Int), L.treepatch_ValidatePatch_L1_R v12 v13 fu v14 (K (.exit 0) (bld [2] [.cl 1 0] 0 28) [.cells [.ro L.T0 m0], .cells [.xi m1, .xi m11]]) (fun q0_ q1_ => K .ret (bld [2] [.cl 0 0] 0 28) [.cells [.xi q0_, .xi q1_]]) = iterL (stepL (exec Tryd.prog (CC Tryd.prog L.Γ_treepatch_ValidatePatch L.Δ_treepatch_ValidatePatch) (drawD Tryd.prog L.Γ_treepatch_ValidatePatch L.Δ_treepatch_ValidatePatch) .leaf (sub [true, true, false, true, false, false] (codeOf Tryd.f28))) 2 L.treepatch_ValidatePatch_L1_d K) fu (bld L.treepatch_ValidatePatch_L1_d.keep [.cl 1 0, .ro L.T0 v12, .xi v13, .xi v14] 0 28) [.cells [.ro L.T0 m0], .cells [.xi m1, .xi m11]] := by
  intro fu
  induction fu with
  | zero => intros; rfl
  | succ fu ih =>
    intro v14
    have e : (fun v14 => L.treepatch_ValidatePatch_L1_R v12 v13 fu v14 (K (.exit 0) (bld [2] [.cl 1 0] 0 28) [.cells [.ro L.T0 m0], .cells [.xi m1, .xi m11]]) (fun q0_ q1_ => K .ret (bld [2] [.cl 0 0] 0 28) [.cells [.xi q0_, .xi q1_]])) = fun v14 => iterL (stepL (exec Tryd.prog (CC Tryd.prog L.Γ_treepatch_ValidatePatch L.Δ_treepatch_ValidatePatch) (drawD Tryd.prog L.Γ_treepatch_ValidatePatch L.Δ_treepatch_ValidatePatch) .leaf (sub [true, true, false, true, false, false] (codeOf Tryd.f28))) 2 L.treepatch_ValidatePatch_L1_d K) fu (bld L.treepatch_ValidatePatch_L1_d.keep [.cl 1 0, .ro L.T0 v12, .xi v13, .xi v14] 0 28) [.cells [.ro L.T0 m0], .cells [.xi m1, .xi m11]] := by
      funext v14; exact ih v14
    show L.treepatch_ValidatePatch_L1_b v12 v13 v14 (fun v14 => L.treepatch_ValidatePatch_L1_R v12 v13 fu v14 (K (.exit 0) (bld [2] [.cl 1 0] 0 28) [.cells [.ro L.T0 m0], .cells [.xi m1, .xi m11]]) (fun q0_ q1_ => K .ret (bld [2] [.cl 0 0] 0 28) [.cells [.xi q0_, .xi q1_]])) (K (.exit 0) (bld [2] [.cl 1 0] 0 28) [.cells [.ro L.T0 m0], .cells [.xi m1, .xi m11]]) (fun q0_ q1_ => K .ret (bld [2] [.cl 0 0] 0 28) [.cells [.xi q0_, .xi q1_]]) = _
    rw [e]
    kernel_rfl
theorem L.treepatch_ValidatePatch_L1_imp (vs : List V) (st : List Ob) (K : Ex → St) (h : L.treepatch_ValidatePatch_L1_G vs st K) : ∃ fu, iterL (stepL (exec Tryd.prog (CC Tryd.prog L.Γ_treepatch_ValidatePatch L.Δ_treepatch_ValidatePatch) (drawD Tryd.prog L.Γ_treepatch_ValidatePatch L.Δ_treepatch_ValidatePatch) .leaf (sub [true, true, false, true, false, false] (codeOf Tryd.f28))) 2 L.treepatch_ValidatePatch_L1_d K) fu (bld L.treepatch_ValidatePatch_L1_d.keep (mkL L.treepatch_ValidatePatch_L1_ss 0 vs) 0 28) (mkOs L.treepatch_ValidatePatch_L1_os 0 st) :=
  exMap (fun fu h => @Eq.mp _ _ (Eq.trans (L.treepatch_ValidatePatch_L1_eq (gR L.T0 (vs.getD 1 .any)) (gI (vs.getD 2 .any)) (gR L.T0 ((oC (st.getD 0 .dead)).getD 0 .any)) (cI st 1 0) (cI st 1 1) K fu (gI (vs.getD 3 .any))) (by kernel_rfl)) h) (L.treepatch_ValidatePatch_L1.out h)
theorem L.treepatch_ValidatePatch_L1_ok : AnnOk Tryd.prog (CC Tryd.prog L.Γ_treepatch_ValidatePatch L.Δ_treepatch_ValidatePatch) (drawD Tryd.prog L.Γ_treepatch_ValidatePatch L.Δ_treepatch_ValidatePatch) 0 (.lift L.treepatch_ValidatePatch_L1_d 28 L.treepatch_ValidatePatch_L1_F) (.loop (sub [true, true, false, true, false, false] (codeOf Tryd.f28))) :=
  lift_ok (an := .leaf) (ss := L.treepatch_ValidatePatch_L1_ss) (os := L.treepatch_ValidatePatch_L1_os) (G := L.treepatch_ValidatePatch_L1_G) rfl (Nat.le_of_ble_eq_true rfl) (annOk_leaf _) (L.treepatch_ValidatePatch_L1_imp)
def L.treepatch_ValidatePatch_B (p_Changes : (List (Int × (ByteArray × (ByteArray × ((List ByteArray) × L.T6)))))) (K : Int → Int → Prop) : Prop :=
  (bif (decide ((p_Changes.length : Int) > 30)) then K 2 (-1) else L.treepatch_ValidatePatch_L1 p_Changes (p_Changes.length : Int) 0 (K 0 0) (fun m r => K m r))
structure L.treepatch_ValidatePatch (p_Changes : (List (Int × (ByteArray × (ByteArray × ((List ByteArray) × L.T6)))))) (K : Int → Int → Prop) : Prop where
  out : L.treepatch_ValidatePatch_B p_Changes K
def L.treepatch_ValidatePatch_ss : List Sh := [.agg [.ro L.T0]]
def L.treepatch_ValidatePatch_G (vs : List V) (K : V → List Ob → Prop) : Prop := L.treepatch_ValidatePatch (gR L.T0 ((gC (vs.getD 0 .any)).getD 0 .any)) (fun r0 r1 => K (.agg [.xi r0, .xi r1]) [])
def L.treepatch_ValidatePatch_S : SemF := fun args K => argF L.treepatch_ValidatePatch_ss args fun a => L.treepatch_ValidatePatch_G a K
theorem L.treepatch_ValidatePatch_eq (p_Changes : (List (Int × (ByteArray × (ByteArray × ((List ByteArray) × L.T6)))))) (K : V → List Ob → Prop) : run Tryd.prog L.Γ_treepatch_ValidatePatch L.Δ_treepatch_ValidatePatch (.node .leaf (.node .leaf (.node (.node .leaf (.lift L.treepatch_ValidatePatch_L1_d 28 L.treepatch_ValidatePatch_L1_F)) .leaf))) .any Tryd.f28 [.agg [.ro L.T0 p_Changes]] K = L.treepatch_ValidatePatch_B p_Changes (fun r0 r1 => K (.agg [.xi r0, .xi r1]) []) := by
  kernel_rfl
theorem L.treepatch_ValidatePatch_imp (vs : List V) (K : V → List Ob → Prop) : Imp (L.treepatch_ValidatePatch_G vs K) (run Tryd.prog L.Γ_treepatch_ValidatePatch L.Δ_treepatch_ValidatePatch (.node .leaf (.node .leaf (.node (.node .leaf (.lift L.treepatch_ValidatePatch_L1_d 28 L.treepatch_ValidatePatch_L1_F)) .leaf))) .any Tryd.f28 (mkL L.treepatch_ValidatePatch_ss 0 vs) K) :=
  Imp.of (Eq.trans (b := run Tryd.prog L.Γ_treepatch_ValidatePatch L.Δ_treepatch_ValidatePatch (.node .leaf (.node .leaf (.node (.node .leaf (.lift L.treepatch_ValidatePatch_L1_d 28 L.treepatch_ValidatePatch_L1_F)) .leaf))) .any Tryd.f28 [.agg [.ro L.T0 (gR L.T0 ((gC (vs.getD 0 .any)).getD 0 .any))]] K) (by kernel_rfl) (L.treepatch_ValidatePatch_eq (gR L.T0 ((gC (vs.getD 0 .any)).getD 0 .any)) K)) fun h => (L.treepatch_ValidatePatch.out h)
theorem L.treepatch_ValidatePatch_ok : SoundFn Tryd.prog 28 L.treepatch_ValidatePatch_S :=
  fn_ok (sem := run Tryd.prog L.Γ_treepatch_ValidatePatch L.Δ_treepatch_ValidatePatch (.node .leaf (.node .leaf (.node (.node .leaf (.lift L.treepatch_ValidatePatch_L1_d 28 L.treepatch_ValidatePatch_L1_F)) .leaf))) .any Tryd.f28) (ss := L.treepatch_ValidatePatch_ss) (G := L.treepatch_ValidatePatch_G) (run_ok L.Γ_treepatch_ValidatePatch_ok L.Δ_treepatch_ValidatePatch_ok Tryd.func28 (ann := (.node .leaf (.node .leaf (.node (.node .leaf (.lift L.treepatch_ValidatePatch_L1_d 28 L.treepatch_ValidatePatch_L1_F)) .leaf)))) ⟨(annOk_leaf _), ⟨(annOk_leaf _), ⟨⟨(annOk_leaf _), L.treepatch_ValidatePatch_L1_ok⟩, (annOk_leaf _)⟩⟩⟩) L.treepatch_ValidatePatch_imp
/-- changeforge/treepatch.Clash -/
def L.Γ_treepatch_Clash : Ctx := ctxC L.Γ_treepatch_ValidatePatch 28 L.treepatch_ValidatePatch_S
theorem L.Γ_treepatch_Clash_ok : SoundG Tryd.prog L.Γ_treepatch_Clash := ctxC_ok L.Γ_treepatch_ValidatePatch_ok L.treepatch_ValidatePatch_ok
def L.Δ_treepatch_Clash : CtxO := L.Δ_treepatch_ValidatePatch
theorem L.Δ_treepatch_Clash_ok : SoundGO Tryd.prog L.Δ_treepatch_Clash := L.Δ_treepatch_ValidatePatch_ok
def L.treepatch_Clash_J2_B (v24 : Bool) (Kn : Prop) (Kr : Bool → Prop) : Prop :=
  (bif v24 then Kr true else Kn)
structure L.treepatch_Clash_J2 (v24 : Bool) (Kn : Prop) (Kr : Bool → Prop) : Prop where
  out : L.treepatch_Clash_J2_B v24 Kn Kr
def L.treepatch_Clash_J2_d : CutD := { base := 1, vecs := [], flds := [], keep := [1, 2, 9, 10, 11, 24], out := [1, 2, 9, 10, 11], rets := [6], ovecs := [], oflds := [], rv := [], rbase := 0 }
def L.treepatch_Clash_J2_ss : List Sh := [.str, .int .i64, .ro (.pair .str (.slice .str)), .int .i64, .int .i64, .bool]
def L.treepatch_Clash_J2_os : List OSh := [.cells [.str, .ro .str]]
def L.treepatch_Clash_J2_G (vs : List V) (st : List Ob) (K : Ex → St) : Prop := L.treepatch_Clash_J2 (gB (vs.getD 5 .any)) (K .normal (bld [1, 2, 9, 10, 11] [.x (.string (gS (vs.getD 0 .any))), .xi (gI (vs.getD 1 .any)), .ro (.pair .str (.slice .str)) (gR (.pair .str (.slice .str)) (vs.getD 2 .any)), .xi (gI (vs.getD 3 .any)), .xi (gI (vs.getD 4 .any))] 0 26) [.cells [.x (.string (gS ((oC (st.getD 0 .dead)).getD 0 .any))), .ro .str (gR .str ((oC (st.getD 0 .dead)).getD 1 .any))]]) (fun q0_ => K .ret (bld [6] [.x (.bool q0_)] 0 26) [])
def L.treepatch_Clash_J2_F (vs : List V) (st : List Ob) (K : Ex → St) : Prop := fitF L.treepatch_Clash_J2_ss L.treepatch_Clash_J2_os vs st (L.treepatch_Clash_J2_G vs st K)
theorem L.treepatch_Clash_J2_eq (path2 : ByteArray) (except2 : Int) (v91 : (List (ByteArray × (List ByteArray)))) (v101 : Int) (v111 : Int) (v24 : Bool) (m0 : ByteArray) (m01 : (List ByteArray)) (K : Ex → St) : L.treepatch_Clash_J2_B v24 (K .normal (bld [1, 2, 9, 10, 11] [.x (.string path2), .xi except2, .ro (.pair .str (.slice .str)) v91, .xi v101, .xi v111] 0 26) [.cells [.x (.string m0), .ro .str m01]]) (fun q0_ => K .ret (bld [6] [.x (.bool q0_)] 0 26) []) = exec Tryd.prog (CC Tryd.prog L.Γ_treepatch_Clash L.Δ_treepatch_Clash) (drawD Tryd.prog L.Γ_treepatch_Clash L.Δ_treepatch_Clash) .leaf (sub [true, false, true, false, false, true, true, false, false, true, true] (codeOf Tryd.f43)) (bld L.treepatch_Clash_J2_d.keep [.x (.string path2), .xi except2, .ro (.pair .str (.slice .str)) v91, .xi v101, .xi v111, .x (.bool v24)] 0 26) [.cells [.x (.string m0), .ro .str m01]] (cutK L.treepatch_Clash_J2_d K) := by
  kernel_rfl
theorem L.treepatch_Clash_J2_ok (vs : List V) (st : List Ob) (K : Ex → St) : Imp (L.treepatch_Clash_J2_G vs st K) (exec Tryd.prog (CC Tryd.prog L.Γ_treepatch_Clash L.Δ_treepatch_Clash) (drawD Tryd.prog L.Γ_treepatch_Clash L.Δ_treepatch_Clash) .leaf (sub [true, false, true, false, false, true, true, false, false, true, true] (codeOf Tryd.f43)) (bld L.treepatch_Clash_J2_d.keep (mkL L.treepatch_Clash_J2_ss 0 vs) 0 26) (mkOs L.treepatch_Clash_J2_os 0 st) (cutK L.treepatch_Clash_J2_d K)) :=
  Imp.of (Eq.trans (b := exec Tryd.prog (CC Tryd.prog L.Γ_treepatch_Clash L.Δ_treepatch_Clash) (drawD Tryd.prog L.Γ_treepatch_Clash L.Δ_treepatch_Clash) .leaf (sub [true, false, true, false, false, true, true, false, false, true, true] (codeOf Tryd.f43)) (bld L.treepatch_Clash_J2_d.keep [.x (.string (gS (vs.getD 0 .any))), .xi (gI (vs.getD 1 .any)), .ro (.pair .str (.slice .str)) (gR (.pair .str (.slice .str)) (vs.getD 2 .any)), .xi (gI (vs.getD 3 .any)), .xi (gI (vs.getD 4 .any)), .x (.bool (gB (vs.getD 5 .any)))] 0 26) [.cells [.x (.string (gS ((oC (st.getD 0 .dead)).getD 0 .any))), .ro .str (gR .str ((oC (st.getD 0 .dead)).getD 1 .any))]] (cutK L.treepatch_Clash_J2_d K)) (by kernel_rfl) (Eq.symm (L.treepatch_Clash_J2_eq (gS (vs.getD 0 .any)) (gI (vs.getD 1 .any)) (gR (.pair .str (.slice .str)) (vs.getD 2 .any)) (gI (vs.getD 3 .any)) (gI (vs.getD 4 .any)) (gB (vs.getD 5 .any)) (gS ((oC (st.getD 0 .dead)).getD 0 .any)) (gR .str ((oC (st.getD 0 .dead)).getD 1 .any)) K))) fun h => (L.treepatch_Clash_J2.out h)
def L.treepatch_Clash_L1_b (path1 : ByteArray) (except1 : Int) (v9 : (List (ByteArray × (List ByteArray)))) (v10 : Int) (v11 : Int) (self : Int → Prop) (Kx0 : Prop) (Kr : Bool → Prop) : Prop :=
  (bif (decide (v11 < v10)) then (inB v11 v9.length) ∧ (bif (v11 != except1) then L.treepatch_Related ((v9.getD v11.toNat (ByteArray.empty, [])).1) path1 (fun r => L.treepatch_Clash_J2 (bif true then r else false) (self (i64 (v11 + 1))) Kr) else L.treepatch_Clash_J2 false (self (i64 (v11 + 1))) Kr) else Kx0)
def L.treepatch_Clash_L1_R (path1 : ByteArray) (except1 : Int) (v9 : (List (ByteArray × (List ByteArray)))) (v10 : Int) : Nat → Int → (Prop) → (Bool → Prop) → Prop
  | 0, _, _, _ => False
  | fu + 1, v11, Kx0, Kr => L.treepatch_Clash_L1_b path1 except1 v9 v10 v11 (fun v11 => L.treepatch_Clash_L1_R path1 except1 v9 v10 fu v11 Kx0 Kr) Kx0 Kr
structure L.treepatch_Clash_L1 (path1 : ByteArray) (except1 : Int) (v9 : (List (ByteArray × (List ByteArray)))) (v10 : Int) (v11 : Int) (Kx0 : Prop) (Kr : Bool → Prop) : Prop where
  out : ∃ fu, L.treepatch_Clash_L1_R path1 except1 v9 v10 fu v11 Kx0 Kr
def L.treepatch_Clash_L1_d : LoopD := { base := 0, vecs := [], flds := [], keep := [1, 2, 9, 10, 11], out := [], rets := [6], rv := [], rbase := 0 }
def L.treepatch_Clash_L1_ss : List Sh := [.str, .int .i64, .ro (.pair .str (.slice .str)), .int .i64, .int .i64]
def L.treepatch_Clash_L1_os : List OSh := []
def L.treepatch_Clash_L1_G (vs : List V) (st : List Ob) (K : Ex → St) : Prop := L.treepatch_Clash_L1 (gS (vs.getD 0 .any)) (gI (vs.getD 1 .any)) (gR (.pair .str (.slice .str)) (vs.getD 2 .any)) (gI (vs.getD 3 .any)) (gI (vs.getD 4 .any)) (K (.exit 0) (bld [] [] 0 26) []) (fun q0_ => K .ret (bld [6] [.x (.bool q0_)] 0 26) [])
def L.treepatch_Clash_L1_F (vs : List V) (st : List Ob) (K : Ex → St) : Prop := fitF L.treepatch_Clash_L1_ss L.treepatch_Clash_L1_os vs st (L.treepatch_Clash_L1_G vs st K)
theorem L.treepatch_Clash_L1_eq (path1 : ByteArray) (except1 : Int) (v9 : (List (ByteArray × (List ByteArray)))) (v10 : Int) (K : Ex → St) : ∀ (fu : Nat) (v11 : Int), L.treepatch_Clash_L1_R path1 except1 v9 v10 fu v11 (K (.exit 0) (bld [] [] 0 26) []) (fun q0_ => K .ret (bld [6] [.x (.bool q0_)] 0 26) []) = iterL (stepL (exec Tryd.prog (CC Tryd.prog L.Γ_treepatch_Clash L.Δ_treepatch_Clash) (drawD Tryd.prog L.Γ_treepatch_Clash L.Δ_treepatch_Clash) (.node .leaf (.node .leaf (.node (.node .leaf (.cut .leaf L.treepatch_Clash_J2_d 26 L.treepatch_Clash_J2_F)) .leaf))) (sub [true, false, true, false, false] (codeOf Tryd.f43))) 0 L.treepatch_Clash_L1_d K) fu (bld L.treepatch_Clash_L1_d.keep [.x (.string path1), .xi except1, .ro (.pair .str (.slice .str)) v9, .xi v10, .xi v11] 0 26) [] := by
  intro fu
  induction fu with
  | zero => intros; rfl
  | succ fu ih =>
    intro v11
    have e : (fun v11 => L.treepatch_Clash_L1_R path1 except1 v9 v10 fu v11 (K (.exit 0) (bld [] [] 0 26) []) (fun q0_ => K .ret (bld [6] [.x (.bool q0_)] 0 26) [])) = fun v11 => iterL (stepL (exec Tryd.prog (CC Tryd.prog L.Γ_treepatch_Clash L.Δ_treepatch_Clash) (drawD Tryd.prog L.Γ_treepatch_Clash L.Δ_treepatch_Clash) (.node .leaf (.node .leaf (.node (.node .leaf (.cut .leaf L.treepatch_Clash_J2_d 26 L.treepatch_Clash_J2_F)) .leaf))) (sub [true, false, true, false, false] (codeOf Tryd.f43))) 0 L.treepatch_Clash_L1_d K) fu (bld L.treepatch_Clash_L1_d.keep [.x (.string path1), .xi except1, .ro (.pair .str (.slice .str)) v9, .xi v10, .xi v11] 0 26) [] := by
      funext v11; exact ih v11
    show L.treepatch_Clash_L1_b path1 except1 v9 v10 v11 (fun v11 => L.treepatch_Clash_L1_R path1 except1 v9 v10 fu v11 (K (.exit 0) (bld [] [] 0 26) []) (fun q0_ => K .ret (bld [6] [.x (.bool q0_)] 0 26) [])) (K (.exit 0) (bld [] [] 0 26) []) (fun q0_ => K .ret (bld [6] [.x (.bool q0_)] 0 26) []) = _
    rw [e]
    kernel_rfl
theorem L.treepatch_Clash_L1_imp (vs : List V) (st : List Ob) (K : Ex → St) (h : L.treepatch_Clash_L1_G vs st K) : ∃ fu, iterL (stepL (exec Tryd.prog (CC Tryd.prog L.Γ_treepatch_Clash L.Δ_treepatch_Clash) (drawD Tryd.prog L.Γ_treepatch_Clash L.Δ_treepatch_Clash) (.node .leaf (.node .leaf (.node (.node .leaf (.cut .leaf L.treepatch_Clash_J2_d 26 L.treepatch_Clash_J2_F)) .leaf))) (sub [true, false, true, false, false] (codeOf Tryd.f43))) 0 L.treepatch_Clash_L1_d K) fu (bld L.treepatch_Clash_L1_d.keep (mkL L.treepatch_Clash_L1_ss 0 vs) 0 26) (mkOs L.treepatch_Clash_L1_os 0 st) :=
  exMap (fun fu h => @Eq.mp _ _ (Eq.trans (L.treepatch_Clash_L1_eq (gS (vs.getD 0 .any)) (gI (vs.getD 1 .any)) (gR (.pair .str (.slice .str)) (vs.getD 2 .any)) (gI (vs.getD 3 .any)) K fu (gI (vs.getD 4 .any))) (by kernel_rfl)) h) (L.treepatch_Clash_L1.out h)
theorem L.treepatch_Clash_L1_ok : AnnOk Tryd.prog (CC Tryd.prog L.Γ_treepatch_Clash L.Δ_treepatch_Clash) (drawD Tryd.prog L.Γ_treepatch_Clash L.Δ_treepatch_Clash) 0 (.lift L.treepatch_Clash_L1_d 26 L.treepatch_Clash_L1_F) (.loop (sub [true, false, true, false, false] (codeOf Tryd.f43))) :=
  lift_ok (an := (.node .leaf (.node .leaf (.node (.node .leaf (.cut .leaf L.treepatch_Clash_J2_d 26 L.treepatch_Clash_J2_F)) .leaf)))) (ss := L.treepatch_Clash_L1_ss) (os := L.treepatch_Clash_L1_os) (G := L.treepatch_Clash_L1_G) rfl (Nat.le_of_ble_eq_true rfl) ⟨(annOk_leaf _), ⟨(annOk_leaf _), ⟨⟨(annOk_leaf _), (cut_ok (ay := .leaf) (ss := L.treepatch_Clash_J2_ss) (os := L.treepatch_Clash_J2_os) (G := L.treepatch_Clash_J2_G) rfl (annOk_leaf _) (Nat.le_of_ble_eq_true rfl) (Nat.le_of_ble_eq_true rfl) (annOk_leaf _) L.treepatch_Clash_J2_ok)⟩, (annOk_leaf _)⟩⟩⟩ (L.treepatch_Clash_L1_imp)
def L.treepatch_Clash_B (files : (List (ByteArray × (List ByteArray)))) (path : ByteArray) (except : Int) (K : Bool → Prop) : Prop :=
  L.treepatch_Clash_L1 path except files (files.length : Int) 0 (K false) (fun r => K r)
structure L.treepatch_Clash (files : (List (ByteArray × (List ByteArray)))) (path : ByteArray) (except : Int) (K : Bool → Prop) : Prop where
  out : L.treepatch_Clash_B files path except K
def L.treepatch_Clash_ss : List Sh := [.ro (.pair .str (.slice .str)), .str, .int .i64]
def L.treepatch_Clash_G (vs : List V) (K : V → List Ob → Prop) : Prop := L.treepatch_Clash (gR (.pair .str (.slice .str)) (vs.getD 0 .any)) (gS (vs.getD 1 .any)) (gI (vs.getD 2 .any)) (fun r0 => K (.x (.bool r0)) [])
def L.treepatch_Clash_S : SemF := fun args K => argF L.treepatch_Clash_ss args fun a => L.treepatch_Clash_G a K
theorem L.treepatch_Clash_eq (files : (List (ByteArray × (List ByteArray)))) (path : ByteArray) (except : Int) (K : V → List Ob → Prop) : run Tryd.prog L.Γ_treepatch_Clash L.Δ_treepatch_Clash (.node .leaf (.node (.node .leaf (.lift L.treepatch_Clash_L1_d 26 L.treepatch_Clash_L1_F)) .leaf)) .any Tryd.f43 [.ro (.pair .str (.slice .str)) files, .x (.string path), .xi except] K = L.treepatch_Clash_B files path except (fun r0 => K (.x (.bool r0)) []) := by
  kernel_rfl
theorem L.treepatch_Clash_imp (vs : List V) (K : V → List Ob → Prop) : Imp (L.treepatch_Clash_G vs K) (run Tryd.prog L.Γ_treepatch_Clash L.Δ_treepatch_Clash (.node .leaf (.node (.node .leaf (.lift L.treepatch_Clash_L1_d 26 L.treepatch_Clash_L1_F)) .leaf)) .any Tryd.f43 (mkL L.treepatch_Clash_ss 0 vs) K) :=
  Imp.of (Eq.trans (b := run Tryd.prog L.Γ_treepatch_Clash L.Δ_treepatch_Clash (.node .leaf (.node (.node .leaf (.lift L.treepatch_Clash_L1_d 26 L.treepatch_Clash_L1_F)) .leaf)) .any Tryd.f43 [.ro (.pair .str (.slice .str)) (gR (.pair .str (.slice .str)) (vs.getD 0 .any)), .x (.string (gS (vs.getD 1 .any))), .xi (gI (vs.getD 2 .any))] K) (by kernel_rfl) (L.treepatch_Clash_eq (gR (.pair .str (.slice .str)) (vs.getD 0 .any)) (gS (vs.getD 1 .any)) (gI (vs.getD 2 .any)) K)) fun h => (L.treepatch_Clash.out h)
theorem L.treepatch_Clash_ok : SoundFn Tryd.prog 43 L.treepatch_Clash_S :=
  fn_ok (sem := run Tryd.prog L.Γ_treepatch_Clash L.Δ_treepatch_Clash (.node .leaf (.node (.node .leaf (.lift L.treepatch_Clash_L1_d 26 L.treepatch_Clash_L1_F)) .leaf)) .any Tryd.f43) (ss := L.treepatch_Clash_ss) (G := L.treepatch_Clash_G) (run_ok L.Γ_treepatch_Clash_ok L.Δ_treepatch_Clash_ok Tryd.func43 (ann := (.node .leaf (.node (.node .leaf (.lift L.treepatch_Clash_L1_d 26 L.treepatch_Clash_L1_F)) .leaf))) ⟨(annOk_leaf _), ⟨⟨(annOk_leaf _), L.treepatch_Clash_L1_ok⟩, (annOk_leaf _)⟩⟩) L.treepatch_Clash_imp
/-- changeforge/treepatch.Validate -/
def L.Γ_treepatch_Validate : Ctx := ctxC L.Γ_treepatch_Clash 43 L.treepatch_Clash_S
theorem L.Γ_treepatch_Validate_ok : SoundG Tryd.prog L.Γ_treepatch_Validate := ctxC_ok L.Γ_treepatch_Clash_ok L.treepatch_Clash_ok
def L.Δ_treepatch_Validate : CtxO := L.Δ_treepatch_Clash
theorem L.Δ_treepatch_Validate_ok : SoundGO Tryd.prog L.Δ_treepatch_Validate := L.Δ_treepatch_Clash_ok
def L.treepatch_Validate_L1_b (v12 : (List (ByteArray × (List ByteArray)))) (v13 : Int) (t : (List (ByteArray × (List ByteArray)))) (v14 : Int) (self : Int → Prop) (Kx0 : Prop) (Kr : Int → Int → Prop) : Prop :=
  (bif (decide (v14 < v13)) then (inB v14 v12.length) ∧ L.treepatch_ValidPath ((v12.getD v14.toNat (ByteArray.empty, [])).1) (fun r => (bif (!r) then Kr 12 v14 else ((((decide (v14 > 0)) == true) = true → inB (i64 (v14 - 1)) t.length)) ∧ (bif (bif (decide (v14 > 0)) then ((Op.bytesLess ((v12.getD v14.toNat (ByteArray.empty, [])).1).toList ((t.getD ((i64 (v14 - 1)).toNat) (ByteArray.empty, [])).1).toList) || (((v12.getD v14.toNat (ByteArray.empty, [])).1).toList == ((t.getD ((i64 (v14 - 1)).toNat) (ByteArray.empty, [])).1).toList)) else false) then Kr 5 v14 else (0 ≤ v14 ∧ v14 ≤ t.length) ∧ L.treepatch_Clash (t.take v14.toNat) ((v12.getD v14.toNat (ByteArray.empty, [])).1) (-1) (fun r1 => (bif r1 then Kr 7 v14 else L.lines_Second ((v12.getD v14.toNat (ByteArray.empty, [])).2) v14 (fun rCode rIndex => (bif (!((rCode == 0) && ((rIndex == 0) && true))) then Kr rCode rIndex else self (i64 (v14 + 1))))))))) else Kx0)
def L.treepatch_Validate_L1_R (v12 : (List (ByteArray × (List ByteArray)))) (v13 : Int) (t : (List (ByteArray × (List ByteArray)))) : Nat → Int → (Prop) → (Int → Int → Prop) → Prop
  | 0, _, _, _ => False
  | fu + 1, v14, Kx0, Kr => L.treepatch_Validate_L1_b v12 v13 t v14 (fun v14 => L.treepatch_Validate_L1_R v12 v13 t fu v14 Kx0 Kr) Kx0 Kr
structure L.treepatch_Validate_L1 (v12 : (List (ByteArray × (List ByteArray)))) (v13 : Int) (t : (List (ByteArray × (List ByteArray)))) (v14 : Int) (Kx0 : Prop) (Kr : Int → Int → Prop) : Prop where
  out : ∃ fu, L.treepatch_Validate_L1_R v12 v13 t fu v14 Kx0 Kr
def L.treepatch_Validate_L1_d : LoopD := { base := 2, vecs := [], flds := [], keep := [1, 2, 12, 13, 14], out := [2], rets := [2], rv := [], rbase := 0 }
def L.treepatch_Validate_L1_ss : List Sh := [.cl 0 0, .cl 1 0, .ro (.pair .str (.slice .str)), .int .i64, .int .i64]
def L.treepatch_Validate_L1_os : List OSh := [.cells [.ro (.pair .str (.slice .str))], .cells [.int .i64, .int .i64]]
def L.treepatch_Validate_L1_G (vs : List V) (st : List Ob) (K : Ex → St) : Prop := L.treepatch_Validate_L1 (gR (.pair .str (.slice .str)) (vs.getD 2 .any)) (gI (vs.getD 3 .any)) (gR (.pair .str (.slice .str)) ((oC (st.getD 0 .dead)).getD 0 .any)) (gI (vs.getD 4 .any)) (K (.exit 0) (bld [2] [.cl 1 0] 0 63) [.cells [.ro (.pair .str (.slice .str)) (gR (.pair .str (.slice .str)) ((oC (st.getD 0 .dead)).getD 0 .any))], .cells [.xi (cI st 1 0), .xi (cI st 1 1)]]) (fun q0_ q1_ => K .ret (bld [2] [.cl 0 0] 0 63) [.cells [.xi q0_, .xi q1_]])
def L.treepatch_Validate_L1_F (vs : List V) (st : List Ob) (K : Ex → St) : Prop := fitF L.treepatch_Validate_L1_ss L.treepatch_Validate_L1_os vs st (L.treepatch_Validate_L1_G vs st K)
theorem L.treepatch_Validate_L1_eq (v12 : (List (ByteArray × (List ByteArray)))) (v13 : Int) (t : (List (ByteArray × (List ByteArray)))) (m1 : Int) (m11 : Int) (K : Ex → St) : ∀ (fu : Nat) (v14 : Int), L.treepatch_Validate_L1_R v12 v13 t fu v14 (K (.exit 0) (bld [2] [.cl 1 0] 0 63) [.cells [.ro (.pair .str (.slice .str)) t], .cells [.xi m1, .xi m11]]) (fun q0_ q1_ => K .ret (bld [2] [.cl 0 0] 0 63) [.cells [.xi q0_, .xi q1_]]) = iterL (stepL (exec Tryd.prog (CC Tryd.prog L.Γ_treepatch_Validate L.Δ_treepatch_Validate) (drawD Tryd.prog L.Γ_treepatch_Validate L.Δ_treepatch_Validate) .leaf (sub [true, true, false, true, false, false] (codeOf Tryd.f22))) 2 L.treepatch_Validate_L1_d K) fu (bld L.treepatch_Validate_L1_d.keep [.cl 0 0, .cl 1 0, .ro (.pair .str (.slice .str)) v12, .xi v13, .xi v14] 0 63) [.cells [.ro (.pair .str (.slice .str)) t], .cells [.xi m1, .xi m11]] := by
  intro fu
  induction fu with
  | zero => intros; rfl
  | succ fu ih =>
    intro v14
    have e : (fun v14 => L.treepatch_Validate_L1_R v12 v13 t fu v14 (K (.exit 0) (bld [2] [.cl 1 0] 0 63) [.cells [.ro (.pair .str (.slice .str)) t], .cells [.xi m1, .xi m11]]) (fun q0_ q1_ => K .ret (bld [2] [.cl 0 0] 0 63) [.cells [.xi q0_, .xi q1_]])) = fun v14 => iterL (stepL (exec Tryd.prog (CC Tryd.prog L.Γ_treepatch_Validate L.Δ_treepatch_Validate) (drawD Tryd.prog L.Γ_treepatch_Validate L.Δ_treepatch_Validate) .leaf (sub [true, true, false, true, false, false] (codeOf Tryd.f22))) 2 L.treepatch_Validate_L1_d K) fu (bld L.treepatch_Validate_L1_d.keep [.cl 0 0, .cl 1 0, .ro (.pair .str (.slice .str)) v12, .xi v13, .xi v14] 0 63) [.cells [.ro (.pair .str (.slice .str)) t], .cells [.xi m1, .xi m11]] := by
      funext v14; exact ih v14
    show L.treepatch_Validate_L1_b v12 v13 t v14 (fun v14 => L.treepatch_Validate_L1_R v12 v13 t fu v14 (K (.exit 0) (bld [2] [.cl 1 0] 0 63) [.cells [.ro (.pair .str (.slice .str)) t], .cells [.xi m1, .xi m11]]) (fun q0_ q1_ => K .ret (bld [2] [.cl 0 0] 0 63) [.cells [.xi q0_, .xi q1_]])) (K (.exit 0) (bld [2] [.cl 1 0] 0 63) [.cells [.ro (.pair .str (.slice .str)) t], .cells [.xi m1, .xi m11]]) (fun q0_ q1_ => K .ret (bld [2] [.cl 0 0] 0 63) [.cells [.xi q0_, .xi q1_]]) = _
    rw [e]
    kernel_rfl
theorem L.treepatch_Validate_L1_imp (vs : List V) (st : List Ob) (K : Ex → St) (h : L.treepatch_Validate_L1_G vs st K) : ∃ fu, iterL (stepL (exec Tryd.prog (CC Tryd.prog L.Γ_treepatch_Validate L.Δ_treepatch_Validate) (drawD Tryd.prog L.Γ_treepatch_Validate L.Δ_treepatch_Validate) .leaf (sub [true, true, false, true, false, false] (codeOf Tryd.f22))) 2 L.treepatch_Validate_L1_d K) fu (bld L.treepatch_Validate_L1_d.keep (mkL L.treepatch_Validate_L1_ss 0 vs) 0 63) (mkOs L.treepatch_Validate_L1_os 0 st) :=
  exMap (fun fu h => @Eq.mp _ _ (Eq.trans (L.treepatch_Validate_L1_eq (gR (.pair .str (.slice .str)) (vs.getD 2 .any)) (gI (vs.getD 3 .any)) (gR (.pair .str (.slice .str)) ((oC (st.getD 0 .dead)).getD 0 .any)) (cI st 1 0) (cI st 1 1) K fu (gI (vs.getD 4 .any))) (by kernel_rfl)) h) (L.treepatch_Validate_L1.out h)
theorem L.treepatch_Validate_L1_ok : AnnOk Tryd.prog (CC Tryd.prog L.Γ_treepatch_Validate L.Δ_treepatch_Validate) (drawD Tryd.prog L.Γ_treepatch_Validate L.Δ_treepatch_Validate) 0 (.lift L.treepatch_Validate_L1_d 63 L.treepatch_Validate_L1_F) (.loop (sub [true, true, false, true, false, false] (codeOf Tryd.f22))) :=
  lift_ok (an := .leaf) (ss := L.treepatch_Validate_L1_ss) (os := L.treepatch_Validate_L1_os) (G := L.treepatch_Validate_L1_G) rfl (Nat.le_of_ble_eq_true rfl) (annOk_leaf _) (L.treepatch_Validate_L1_imp)
def L.treepatch_Validate_B (t_Files : (List (ByteArray × (List ByteArray)))) (K : Int → Int → Prop) : Prop :=
  (bif (decide ((t_Files.length : Int) > 24)) then K 2 (-1) else L.treepatch_Validate_L1 t_Files (t_Files.length : Int) t_Files 0 (K 0 0) (fun t r => K t r))
structure L.treepatch_Validate (t_Files : (List (ByteArray × (List ByteArray)))) (K : Int → Int → Prop) : Prop where
  out : L.treepatch_Validate_B t_Files K
def L.treepatch_Validate_ss : List Sh := [.agg [.ro (.pair .str (.slice .str))]]
def L.treepatch_Validate_G (vs : List V) (K : V → List Ob → Prop) : Prop := L.treepatch_Validate (gR (.pair .str (.slice .str)) ((gC (vs.getD 0 .any)).getD 0 .any)) (fun r0 r1 => K (.agg [.xi r0, .xi r1]) [])
def L.treepatch_Validate_S : SemF := fun args K => argF L.treepatch_Validate_ss args fun a => L.treepatch_Validate_G a K
theorem L.treepatch_Validate_eq (t_Files : (List (ByteArray × (List ByteArray)))) (K : V → List Ob → Prop) : run Tryd.prog L.Γ_treepatch_Validate L.Δ_treepatch_Validate (.node .leaf (.node .leaf (.node (.node .leaf (.lift L.treepatch_Validate_L1_d 63 L.treepatch_Validate_L1_F)) .leaf))) .any Tryd.f22 [.agg [.ro (.pair .str (.slice .str)) t_Files]] K = L.treepatch_Validate_B t_Files (fun r0 r1 => K (.agg [.xi r0, .xi r1]) []) := by
  kernel_rfl
theorem L.treepatch_Validate_imp (vs : List V) (K : V → List Ob → Prop) : Imp (L.treepatch_Validate_G vs K) (run Tryd.prog L.Γ_treepatch_Validate L.Δ_treepatch_Validate (.node .leaf (.node .leaf (.node (.node .leaf (.lift L.treepatch_Validate_L1_d 63 L.treepatch_Validate_L1_F)) .leaf))) .any Tryd.f22 (mkL L.treepatch_Validate_ss 0 vs) K) :=
  Imp.of (Eq.trans (b := run Tryd.prog L.Γ_treepatch_Validate L.Δ_treepatch_Validate (.node .leaf (.node .leaf (.node (.node .leaf (.lift L.treepatch_Validate_L1_d 63 L.treepatch_Validate_L1_F)) .leaf))) .any Tryd.f22 [.agg [.ro (.pair .str (.slice .str)) (gR (.pair .str (.slice .str)) ((gC (vs.getD 0 .any)).getD 0 .any))]] K) (by kernel_rfl) (L.treepatch_Validate_eq (gR (.pair .str (.slice .str)) ((gC (vs.getD 0 .any)).getD 0 .any)) K)) fun h => (L.treepatch_Validate.out h)
theorem L.treepatch_Validate_ok : SoundFn Tryd.prog 22 L.treepatch_Validate_S :=
  fn_ok (sem := run Tryd.prog L.Γ_treepatch_Validate L.Δ_treepatch_Validate (.node .leaf (.node .leaf (.node (.node .leaf (.lift L.treepatch_Validate_L1_d 63 L.treepatch_Validate_L1_F)) .leaf))) .any Tryd.f22) (ss := L.treepatch_Validate_ss) (G := L.treepatch_Validate_G) (run_ok L.Γ_treepatch_Validate_ok L.Δ_treepatch_Validate_ok Tryd.func22 (ann := (.node .leaf (.node .leaf (.node (.node .leaf (.lift L.treepatch_Validate_L1_d 63 L.treepatch_Validate_L1_F)) .leaf)))) ⟨(annOk_leaf _), ⟨(annOk_leaf _), ⟨⟨(annOk_leaf _), L.treepatch_Validate_L1_ok⟩, (annOk_leaf _)⟩⟩⟩) L.treepatch_Validate_imp
/-- changeforge/treepatch.Second -/
def L.Γ_treepatch_Second : Ctx := ctxC L.Γ_treepatch_Validate 22 L.treepatch_Validate_S
theorem L.Γ_treepatch_Second_ok : SoundG Tryd.prog L.Γ_treepatch_Second := ctxC_ok L.Γ_treepatch_Validate_ok L.treepatch_Validate_ok
def L.Δ_treepatch_Second : CtxO := L.Δ_treepatch_Validate
theorem L.Δ_treepatch_Second_ok : SoundGO Tryd.prog L.Δ_treepatch_Second := L.Δ_treepatch_Validate_ok
def L.treepatch_Second_B (t_Files : (List (ByteArray × (List ByteArray)))) (index : Int) (K : Int → Int → Prop) : Prop :=
  L.treepatch_Validate t_Files (fun rCode rIndex => (bif (!((rCode == 0) && ((rIndex == 0) && true))) then K rCode index else K 0 0))
structure L.treepatch_Second (t_Files : (List (ByteArray × (List ByteArray)))) (index : Int) (K : Int → Int → Prop) : Prop where
  out : L.treepatch_Second_B t_Files index K
def L.treepatch_Second_ss : List Sh := [.agg [.ro (.pair .str (.slice .str))], .int .i64]
def L.treepatch_Second_G (vs : List V) (K : V → List Ob → Prop) : Prop := L.treepatch_Second (gR (.pair .str (.slice .str)) ((gC (vs.getD 0 .any)).getD 0 .any)) (gI (vs.getD 1 .any)) (fun r0 r1 => K (.agg [.xi r0, .xi r1]) [])
def L.treepatch_Second_S : SemF := fun args K => argF L.treepatch_Second_ss args fun a => L.treepatch_Second_G a K
theorem L.treepatch_Second_eq (t_Files : (List (ByteArray × (List ByteArray)))) (index : Int) (K : V → List Ob → Prop) : run Tryd.prog L.Γ_treepatch_Second L.Δ_treepatch_Second .leaf .any Tryd.f23 [.agg [.ro (.pair .str (.slice .str)) t_Files], .xi index] K = L.treepatch_Second_B t_Files index (fun r0 r1 => K (.agg [.xi r0, .xi r1]) []) := by
  kernel_rfl
theorem L.treepatch_Second_imp (vs : List V) (K : V → List Ob → Prop) : Imp (L.treepatch_Second_G vs K) (run Tryd.prog L.Γ_treepatch_Second L.Δ_treepatch_Second .leaf .any Tryd.f23 (mkL L.treepatch_Second_ss 0 vs) K) :=
  Imp.of (Eq.trans (b := run Tryd.prog L.Γ_treepatch_Second L.Δ_treepatch_Second .leaf .any Tryd.f23 [.agg [.ro (.pair .str (.slice .str)) (gR (.pair .str (.slice .str)) ((gC (vs.getD 0 .any)).getD 0 .any))], .xi (gI (vs.getD 1 .any))] K) (by kernel_rfl) (L.treepatch_Second_eq (gR (.pair .str (.slice .str)) ((gC (vs.getD 0 .any)).getD 0 .any)) (gI (vs.getD 1 .any)) K)) fun h => (L.treepatch_Second.out h)
theorem L.treepatch_Second_ok : SoundFn Tryd.prog 23 L.treepatch_Second_S :=
  fn_ok (sem := run Tryd.prog L.Γ_treepatch_Second L.Δ_treepatch_Second .leaf .any Tryd.f23) (ss := L.treepatch_Second_ss) (G := L.treepatch_Second_G) (run_ok L.Γ_treepatch_Second_ok L.Δ_treepatch_Second_ok Tryd.func23 (ann := .leaf) (annOk_leaf _)) L.treepatch_Second_imp
/-- slices.Clone[[]string,string] -/
def L.Γ_slices_Clone : Ctx := ctxC L.Γ_treepatch_Second 23 L.treepatch_Second_S
theorem L.Γ_slices_Clone_ok : SoundG Tryd.prog L.Γ_slices_Clone := ctxC_ok L.Γ_treepatch_Second_ok L.treepatch_Second_ok
def L.Δ_slices_Clone : CtxO := L.Δ_treepatch_Second
theorem L.Δ_slices_Clone_ok : SoundGO Tryd.prog L.Δ_slices_Clone := L.Δ_treepatch_Second_ok
def L.slices_Clone_B (s : (List ByteArray)) (K : (List ByteArray) → Prop) : Prop :=
  (∀ b : Bool, (s.length ≠ 0 → b = false) → (bif b then K ([] : List ByteArray) else (fits (([] : List ByteArray).length + s.length)) ∧ K (([] : List ByteArray) ++ s)))
structure L.slices_Clone (s : (List ByteArray)) (K : (List ByteArray) → Prop) : Prop where
  out : L.slices_Clone_B s K
def L.slices_Clone_ss : List Sh := [.ro .str]
def L.slices_Clone_G (vs : List V) (K : V → List Ob → Prop) : Prop := L.slices_Clone (gR .str (vs.getD 0 .any)) (fun r0 => K (.vec 0) [.vec .str 0 r0])
def L.slices_Clone_S : SemF := fun args K => argF L.slices_Clone_ss args fun a => L.slices_Clone_G a K
theorem L.slices_Clone_eq (s : (List ByteArray)) (K : V → List Ob → Prop) : run Tryd.prog L.Γ_slices_Clone L.Δ_slices_Clone .leaf (.sl .str) Tryd.f25 [.ro .str s] K = L.slices_Clone_B s (fun r0 => K (.vec 0) [.vec .str 0 r0]) := by
  kernel_rfl
theorem L.slices_Clone_imp (vs : List V) (K : V → List Ob → Prop) : Imp (L.slices_Clone_G vs K) (run Tryd.prog L.Γ_slices_Clone L.Δ_slices_Clone .leaf (.sl .str) Tryd.f25 (mkL L.slices_Clone_ss 0 vs) K) :=
  Imp.of (Eq.trans (b := run Tryd.prog L.Γ_slices_Clone L.Δ_slices_Clone .leaf (.sl .str) Tryd.f25 [.ro .str (gR .str (vs.getD 0 .any))] K) (by kernel_rfl) (L.slices_Clone_eq (gR .str (vs.getD 0 .any)) K)) fun h => (L.slices_Clone.out h)
theorem L.slices_Clone_ok : SoundFn Tryd.prog 25 L.slices_Clone_S :=
  fn_ok (sem := run Tryd.prog L.Γ_slices_Clone L.Δ_slices_Clone .leaf (.sl .str) Tryd.f25) (ss := L.slices_Clone_ss) (G := L.slices_Clone_G) (run_ok L.Γ_slices_Clone_ok L.Δ_slices_Clone_ok Tryd.func25 (ann := .leaf) (annOk_leaf _)) L.slices_Clone_imp
/-- changeforge/treepatch.CopyTree -/
def L.Γ_treepatch_CopyTree_h2 : Ctx := ctxC L.Γ_slices_Clone 25 L.slices_Clone_S
theorem L.Γ_treepatch_CopyTree_h2_ok : SoundG Tryd.prog L.Γ_treepatch_CopyTree_h2 := ctxC_ok L.Γ_slices_Clone_ok L.slices_Clone_ok
def L.Δ_treepatch_CopyTree_h2 : CtxO := L.Δ_slices_Clone
theorem L.Δ_treepatch_CopyTree_h2_ok : SoundGO Tryd.prog L.Δ_treepatch_CopyTree_h2 := L.Δ_slices_Clone_ok
def L.treepatch_CopyTree_h2_L1_b (v7 : (List (ByteArray × (List ByteArray)))) (v8 : Int) (v9 : Int) (m3 : (List (ByteArray × (List ByteArray)))) (self : Int → (List (ByteArray × (List ByteArray))) → Prop) (Kx0 : (List (ByteArray × (List ByteArray))) → Prop) : Prop :=
  (bif (decide (v9 < v8)) then (inB v9 v7.length) ∧ ((L.slices_Clone ((v7.getD v9.toNat (ByteArray.empty, [])).2) (fun r => (fits (m3.length + ([((v7.getD v9.toNat (ByteArray.empty, [])).1, r)] : List (ByteArray × (List ByteArray))).length)) ∧ self (i64 (v9 + 1)) (m3 ++ ([((v7.getD v9.toNat (ByteArray.empty, [])).1, r)] : List (ByteArray × (List ByteArray)))))) ∧ L.slices_Clone ((v7.getD v9.toNat (ByteArray.empty, [])).2) (fun r1 => (fits (m3.length + ([((v7.getD v9.toNat (ByteArray.empty, [])).1, r1)] : List (ByteArray × (List ByteArray))).length)) ∧ self (i64 (v9 + 1)) (m3 ++ ([((v7.getD v9.toNat (ByteArray.empty, [])).1, r1)] : List (ByteArray × (List ByteArray)))))) ∧ ((L.slices_Clone ((v7.getD v9.toNat (ByteArray.empty, [])).2) (fun r2 => (fits (m3.length + ([((v7.getD v9.toNat (ByteArray.empty, [])).1, r2)] : List (ByteArray × (List ByteArray))).length)) ∧ self (i64 (v9 + 1)) (m3 ++ ([((v7.getD v9.toNat (ByteArray.empty, [])).1, r2)] : List (ByteArray × (List ByteArray)))))) ∧ L.slices_Clone ((v7.getD v9.toNat (ByteArray.empty, [])).2) (fun r3 => ((fits (m3.length + ([((v7.getD v9.toNat (ByteArray.empty, [])).1, r3)] : List (ByteArray × (List ByteArray))).length)) ∧ self (i64 (v9 + 1)) (m3 ++ ([((v7.getD v9.toNat (ByteArray.empty, [])).1, r3)] : List (ByteArray × (List ByteArray))))) ∧ (fits (m3.length + ([((v7.getD v9.toNat (ByteArray.empty, [])).1, r3)] : List (ByteArray × (List ByteArray))).length)) ∧ self (i64 (v9 + 1)) (m3 ++ ([((v7.getD v9.toNat (ByteArray.empty, [])).1, r3)] : List (ByteArray × (List ByteArray)))))) ∧ L.slices_Clone ((v7.getD v9.toNat (ByteArray.empty, [])).2) (fun r4 => ((fits (m3.length + ([((v7.getD v9.toNat (ByteArray.empty, [])).1, r4)] : List (ByteArray × (List ByteArray))).length)) ∧ self (i64 (v9 + 1)) (m3 ++ ([((v7.getD v9.toNat (ByteArray.empty, [])).1, r4)] : List (ByteArray × (List ByteArray))))) ∧ ((fits (m3.length + ([((v7.getD v9.toNat (ByteArray.empty, [])).1, r4)] : List (ByteArray × (List ByteArray))).length)) ∧ self (i64 (v9 + 1)) (m3 ++ ([((v7.getD v9.toNat (ByteArray.empty, [])).1, r4)] : List (ByteArray × (List ByteArray))))) ∧ (fits (m3.length + ([((v7.getD v9.toNat (ByteArray.empty, [])).1, r4)] : List (ByteArray × (List ByteArray))).length)) ∧ self (i64 (v9 + 1)) (m3 ++ ([((v7.getD v9.toNat (ByteArray.empty, [])).1, r4)] : List (ByteArray × (List ByteArray))))) else Kx0 m3)
def L.treepatch_CopyTree_h2_L1_R (v7 : (List (ByteArray × (List ByteArray)))) (v8 : Int) : Nat → Int → (List (ByteArray × (List ByteArray))) → ((List (ByteArray × (List ByteArray))) → Prop) → Prop
  | 0, _, _, _ => False
  | fu + 1, v9, m3, Kx0 => L.treepatch_CopyTree_h2_L1_b v7 v8 v9 m3 (fun v9 m3 => L.treepatch_CopyTree_h2_L1_R v7 v8 fu v9 m3 Kx0) Kx0
structure L.treepatch_CopyTree_h2_L1 (v7 : (List (ByteArray × (List ByteArray)))) (v8 : Int) (v9 : Int) (m3 : (List (ByteArray × (List ByteArray)))) (Kx0 : (List (ByteArray × (List ByteArray))) → Prop) : Prop where
  out : ∃ fu, L.treepatch_CopyTree_h2_L1_R v7 v8 fu v9 m3 Kx0
def L.treepatch_CopyTree_h2_L1_d : LoopD := { base := 3, vecs := [], flds := [(2, 0, .sl (.pair .str (.slice .str)))], keep := [2, 3, 7, 8, 9], out := [2, 3], rets := [2], rv := [], rbase := 0 }
def L.treepatch_CopyTree_h2_L1_ss : List Sh := [.cl 1 0, .cl 2 0, .ro (.pair .str (.slice .str)), .int .i64, .int .i64]
def L.treepatch_CopyTree_h2_L1_os : List OSh := [.cells [.ro (.pair .str (.slice .str))], .cells [.nil], .cells [.vec 3], .vec (.pair .str (.slice .str)) true]
def L.treepatch_CopyTree_h2_L1_G (vs : List V) (st : List Ob) (K : Ex → St) : Prop := L.treepatch_CopyTree_h2_L1 (gR (.pair .str (.slice .str)) (vs.getD 2 .any)) (gI (vs.getD 3 .any)) (gI (vs.getD 4 .any)) (oX (.pair .str (.slice .str)) (st.getD 3 .dead)) (fun q0_ => K (.exit 0) (bld [2, 3] [.cl 1 0, .cl 2 0] 0 26) [.cells [.ro (.pair .str (.slice .str)) (gR (.pair .str (.slice .str)) ((oC (st.getD 0 .dead)).getD 0 .any))], .cells [.x (.slice none 0 0)], .cells [.vec 3], .vec (.pair .str (.slice .str)) 0 q0_])
def L.treepatch_CopyTree_h2_L1_F (vs : List V) (st : List Ob) (K : Ex → St) : Prop := fitF L.treepatch_CopyTree_h2_L1_ss L.treepatch_CopyTree_h2_L1_os vs st (L.treepatch_CopyTree_h2_L1_G vs st K)
theorem L.treepatch_CopyTree_h2_L1_eq (v7 : (List (ByteArray × (List ByteArray)))) (v8 : Int) (m0 : (List (ByteArray × (List ByteArray)))) (K : Ex → St) : ∀ (fu : Nat) (v9 : Int) (m3 : (List (ByteArray × (List ByteArray)))), L.treepatch_CopyTree_h2_L1_R v7 v8 fu v9 m3 (fun q0_ => K (.exit 0) (bld [2, 3] [.cl 1 0, .cl 2 0] 0 26) [.cells [.ro (.pair .str (.slice .str)) m0], .cells [.x (.slice none 0 0)], .cells [.vec 3], .vec (.pair .str (.slice .str)) 0 q0_]) = iterL (stepL (exec Tryd.prog (CC Tryd.prog L.Γ_treepatch_CopyTree_h2 L.Δ_treepatch_CopyTree_h2) (drawD Tryd.prog L.Γ_treepatch_CopyTree_h2 L.Δ_treepatch_CopyTree_h2) .leaf (sub [true, true, false, true, false, false] (codeOf Tryd.f29))) 3 L.treepatch_CopyTree_h2_L1_d K) fu (bld L.treepatch_CopyTree_h2_L1_d.keep [.cl 1 0, .cl 2 0, .ro (.pair .str (.slice .str)) v7, .xi v8, .xi v9] 0 26) [.cells [.ro (.pair .str (.slice .str)) m0], .cells [.x (.slice none 0 0)], .cells [.vec 3], .vec (.pair .str (.slice .str)) 0 m3] := by
  intro fu
  induction fu with
  | zero => intros; rfl
  | succ fu ih =>
    intro v9 m3
    have e : (fun v9 m3 => L.treepatch_CopyTree_h2_L1_R v7 v8 fu v9 m3 (fun q0_ => K (.exit 0) (bld [2, 3] [.cl 1 0, .cl 2 0] 0 26) [.cells [.ro (.pair .str (.slice .str)) m0], .cells [.x (.slice none 0 0)], .cells [.vec 3], .vec (.pair .str (.slice .str)) 0 q0_])) = fun v9 m3 => iterL (stepL (exec Tryd.prog (CC Tryd.prog L.Γ_treepatch_CopyTree_h2 L.Δ_treepatch_CopyTree_h2) (drawD Tryd.prog L.Γ_treepatch_CopyTree_h2 L.Δ_treepatch_CopyTree_h2) .leaf (sub [true, true, false, true, false, false] (codeOf Tryd.f29))) 3 L.treepatch_CopyTree_h2_L1_d K) fu (bld L.treepatch_CopyTree_h2_L1_d.keep [.cl 1 0, .cl 2 0, .ro (.pair .str (.slice .str)) v7, .xi v8, .xi v9] 0 26) [.cells [.ro (.pair .str (.slice .str)) m0], .cells [.x (.slice none 0 0)], .cells [.vec 3], .vec (.pair .str (.slice .str)) 0 m3] := by
      funext v9 m3; exact ih v9 m3
    show L.treepatch_CopyTree_h2_L1_b v7 v8 v9 m3 (fun v9 m3 => L.treepatch_CopyTree_h2_L1_R v7 v8 fu v9 m3 (fun q0_ => K (.exit 0) (bld [2, 3] [.cl 1 0, .cl 2 0] 0 26) [.cells [.ro (.pair .str (.slice .str)) m0], .cells [.x (.slice none 0 0)], .cells [.vec 3], .vec (.pair .str (.slice .str)) 0 q0_])) (fun q0_ => K (.exit 0) (bld [2, 3] [.cl 1 0, .cl 2 0] 0 26) [.cells [.ro (.pair .str (.slice .str)) m0], .cells [.x (.slice none 0 0)], .cells [.vec 3], .vec (.pair .str (.slice .str)) 0 q0_]) = _
    rw [e]
    kernel_rfl
theorem L.treepatch_CopyTree_h2_L1_imp (vs : List V) (st : List Ob) (K : Ex → St) (h : L.treepatch_CopyTree_h2_L1_G vs st K) : ∃ fu, iterL (stepL (exec Tryd.prog (CC Tryd.prog L.Γ_treepatch_CopyTree_h2 L.Δ_treepatch_CopyTree_h2) (drawD Tryd.prog L.Γ_treepatch_CopyTree_h2 L.Δ_treepatch_CopyTree_h2) .leaf (sub [true, true, false, true, false, false] (codeOf Tryd.f29))) 3 L.treepatch_CopyTree_h2_L1_d K) fu (bld L.treepatch_CopyTree_h2_L1_d.keep (mkL L.treepatch_CopyTree_h2_L1_ss 0 vs) 0 26) (mkOs L.treepatch_CopyTree_h2_L1_os 0 st) :=
  exMap (fun fu h => @Eq.mp _ _ (Eq.trans (L.treepatch_CopyTree_h2_L1_eq (gR (.pair .str (.slice .str)) (vs.getD 2 .any)) (gI (vs.getD 3 .any)) (gR (.pair .str (.slice .str)) ((oC (st.getD 0 .dead)).getD 0 .any)) K fu (gI (vs.getD 4 .any)) (oX (.pair .str (.slice .str)) (st.getD 3 .dead))) (by kernel_rfl)) h) (L.treepatch_CopyTree_h2_L1.out h)
theorem L.treepatch_CopyTree_h2_L1_ok : AnnOk Tryd.prog (CC Tryd.prog L.Γ_treepatch_CopyTree_h2 L.Δ_treepatch_CopyTree_h2) (drawD Tryd.prog L.Γ_treepatch_CopyTree_h2 L.Δ_treepatch_CopyTree_h2) 0 (.lift L.treepatch_CopyTree_h2_L1_d 26 L.treepatch_CopyTree_h2_L1_F) (.loop (sub [true, true, false, true, false, false] (codeOf Tryd.f29))) :=
  lift_ok (an := .leaf) (ss := L.treepatch_CopyTree_h2_L1_ss) (os := L.treepatch_CopyTree_h2_L1_os) (G := L.treepatch_CopyTree_h2_L1_G) rfl (Nat.le_of_ble_eq_true rfl) (annOk_leaf _) (L.treepatch_CopyTree_h2_L1_imp)
def L.treepatch_CopyTree_h2_B (t : (List (ByteArray × (List ByteArray)))) (K : (List (ByteArray × (List ByteArray))) → Prop) : Prop :=
  L.treepatch_CopyTree_h2_L1 t (t.length : Int) 0 ([] : List (ByteArray × (List ByteArray))) (fun m => K m)
structure L.treepatch_CopyTree_h2 (t : (List (ByteArray × (List ByteArray)))) (K : (List (ByteArray × (List ByteArray))) → Prop) : Prop where
  out : L.treepatch_CopyTree_h2_B t K
def L.treepatch_CopyTree_h2_ss : List Sh := [.agg [.ro (.pair .str (.slice .str))]]
def L.treepatch_CopyTree_h2_os : List OSh := []
def L.treepatch_CopyTree_h2_G (vs : List V) (st : List Ob) (K : V → List Ob → Prop) : Prop := L.treepatch_CopyTree_h2 (gR (.pair .str (.slice .str)) ((gC (vs.getD 0 .any)).getD 0 .any)) (fun r0 => K (.agg [.vec 0]) [.vec (.pair .str (.slice .str)) 0 r0])
def L.treepatch_CopyTree_h2_S : SemO := fun args st K => argO L.treepatch_CopyTree_h2_ss L.treepatch_CopyTree_h2_os args st fun a s => L.treepatch_CopyTree_h2_G a s K
theorem L.treepatch_CopyTree_h2_eq (t : (List (ByteArray × (List ByteArray)))) (K : V → List Ob → Prop) : runH Tryd.prog L.Γ_treepatch_CopyTree_h2 L.Δ_treepatch_CopyTree_h2 (.node .leaf (.node .leaf (.node (.node .leaf (.lift L.treepatch_CopyTree_h2_L1_d 26 L.treepatch_CopyTree_h2_L1_F)) .leaf))) (.agg [(.sl (.pair .str (.slice .str)))]) [] Tryd.f29 false 0 [.agg [.ro (.pair .str (.slice .str)) t]] [] K = L.treepatch_CopyTree_h2_B t (fun r0 => K (.agg [.vec 0]) [.vec (.pair .str (.slice .str)) 0 r0]) := by
  kernel_rfl
theorem L.treepatch_CopyTree_h2_imp (vs : List V) (st : List Ob) (K : V → List Ob → Prop) : Imp (L.treepatch_CopyTree_h2_G vs st K) (runH Tryd.prog L.Γ_treepatch_CopyTree_h2 L.Δ_treepatch_CopyTree_h2 (.node .leaf (.node .leaf (.node (.node .leaf (.lift L.treepatch_CopyTree_h2_L1_d 26 L.treepatch_CopyTree_h2_L1_F)) .leaf))) (.agg [(.sl (.pair .str (.slice .str)))]) [] Tryd.f29 false 0 (mkL L.treepatch_CopyTree_h2_ss 0 vs) (mkOs L.treepatch_CopyTree_h2_os 0 st) K) :=
  Imp.of (Eq.trans (b := runH Tryd.prog L.Γ_treepatch_CopyTree_h2 L.Δ_treepatch_CopyTree_h2 (.node .leaf (.node .leaf (.node (.node .leaf (.lift L.treepatch_CopyTree_h2_L1_d 26 L.treepatch_CopyTree_h2_L1_F)) .leaf))) (.agg [(.sl (.pair .str (.slice .str)))]) [] Tryd.f29 false 0 [.agg [.ro (.pair .str (.slice .str)) (gR (.pair .str (.slice .str)) ((gC (vs.getD 0 .any)).getD 0 .any))]] [] K) (by kernel_rfl) (L.treepatch_CopyTree_h2_eq (gR (.pair .str (.slice .str)) ((gC (vs.getD 0 .any)).getD 0 .any)) K)) fun h => (L.treepatch_CopyTree_h2.out h)
theorem L.treepatch_CopyTree_h2_ok : SoundO Tryd.prog 29 L.treepatch_CopyTree_h2_S :=
  fnO_ok (sem := runH Tryd.prog L.Γ_treepatch_CopyTree_h2 L.Δ_treepatch_CopyTree_h2 (.node .leaf (.node .leaf (.node (.node .leaf (.lift L.treepatch_CopyTree_h2_L1_d 26 L.treepatch_CopyTree_h2_L1_F)) .leaf))) (.agg [(.sl (.pair .str (.slice .str)))]) [] Tryd.f29 false 0) (ss := L.treepatch_CopyTree_h2_ss) (os := L.treepatch_CopyTree_h2_os) (G := L.treepatch_CopyTree_h2_G) (runH_ok L.Γ_treepatch_CopyTree_h2_ok L.Δ_treepatch_CopyTree_h2_ok Tryd.func29 (ann := (.node .leaf (.node .leaf (.node (.node .leaf (.lift L.treepatch_CopyTree_h2_L1_d 26 L.treepatch_CopyTree_h2_L1_F)) .leaf)))) rfl ⟨(annOk_leaf _), ⟨(annOk_leaf _), ⟨⟨(annOk_leaf _), L.treepatch_CopyTree_h2_L1_ok⟩, (annOk_leaf _)⟩⟩⟩) L.treepatch_CopyTree_h2_imp
/-- strings.Compare -/
def L.Γ_strings_Compare : Ctx := L.Γ_treepatch_CopyTree_h2
theorem L.Γ_strings_Compare_ok : SoundG Tryd.prog L.Γ_strings_Compare := L.Γ_treepatch_CopyTree_h2_ok
def L.Δ_strings_Compare : CtxO := ctxE L.Δ_treepatch_CopyTree_h2 29 [.agg [.ro (.pair .str (.slice .str))]] L.treepatch_CopyTree_h2_ss L.treepatch_CopyTree_h2_os L.treepatch_CopyTree_h2_G
theorem L.Δ_strings_Compare_ok : SoundGO Tryd.prog L.Δ_strings_Compare := ctxE_ok L.Δ_treepatch_CopyTree_h2_ok L.treepatch_CopyTree_h2_ok
def L.strings_Compare_B (a : ByteArray) (b : ByteArray) (K : Int → Prop) : Prop :=
  K (La.cmp_R a b)
structure L.strings_Compare (a : ByteArray) (b : ByteArray) (K : Int → Prop) : Prop where
  out : L.strings_Compare_B a b K
def L.strings_Compare_ss : List Sh := [.str, .str]
def L.strings_Compare_G (vs : List V) (K : V → List Ob → Prop) : Prop := L.strings_Compare (gS (vs.getD 0 .any)) (gS (vs.getD 1 .any)) (fun r0 => K (.xi r0) [])
def L.strings_Compare_S : SemF := fun args K => argF L.strings_Compare_ss args fun a => L.strings_Compare_G a K
theorem L.strings_Compare_ok : SoundFn Tryd.prog 46 L.strings_Compare_S := SoundFn.of_imp La.cmp_ok fun args K h => argF_mono (fun a h => h.out) h
/-- changeforge/treepatch.Find$1 -/
def L.Γ_treepatch_Find_1 : Ctx := ctxC L.Γ_strings_Compare 46 L.strings_Compare_S
theorem L.Γ_treepatch_Find_1_ok : SoundG Tryd.prog L.Γ_treepatch_Find_1 := ctxC_ok L.Γ_strings_Compare_ok L.strings_Compare_ok
def L.Δ_treepatch_Find_1 : CtxO := L.Δ_strings_Compare
theorem L.Δ_treepatch_Find_1_ok : SoundGO Tryd.prog L.Δ_treepatch_Find_1 := L.Δ_strings_Compare_ok
def L.treepatch_Find_1_B (f_Path : ByteArray) (f_Lines : (List ByteArray)) (path : ByteArray) (K : Int → Prop) : Prop :=
  L.strings_Compare f_Path path (fun r => K r)
structure L.treepatch_Find_1 (f_Path : ByteArray) (f_Lines : (List ByteArray)) (path : ByteArray) (K : Int → Prop) : Prop where
  out : L.treepatch_Find_1_B f_Path f_Lines path K
def L.treepatch_Find_1_ss : List Sh := [.agg [.str, .ro .str], .str]
def L.treepatch_Find_1_G (vs : List V) (K : V → List Ob → Prop) : Prop := L.treepatch_Find_1 (gS ((gC (vs.getD 0 .any)).getD 0 .any)) (gR .str ((gC (vs.getD 0 .any)).getD 1 .any)) (gS (vs.getD 1 .any)) (fun r0 => K (.xi r0) [])
def L.treepatch_Find_1_S : SemF := fun args K => argF L.treepatch_Find_1_ss args fun a => L.treepatch_Find_1_G a K
theorem L.treepatch_Find_1_eq (f_Path : ByteArray) (f_Lines : (List ByteArray)) (path : ByteArray) (K : V → List Ob → Prop) : run Tryd.prog L.Γ_treepatch_Find_1 L.Δ_treepatch_Find_1 .leaf .any Tryd.f45 [.agg [.x (.string f_Path), .ro .str f_Lines], .x (.string path)] K = L.treepatch_Find_1_B f_Path f_Lines path (fun r0 => K (.xi r0) []) := by
  kernel_rfl
theorem L.treepatch_Find_1_imp (vs : List V) (K : V → List Ob → Prop) : Imp (L.treepatch_Find_1_G vs K) (run Tryd.prog L.Γ_treepatch_Find_1 L.Δ_treepatch_Find_1 .leaf .any Tryd.f45 (mkL L.treepatch_Find_1_ss 0 vs) K) :=
  Imp.of (Eq.trans (b := run Tryd.prog L.Γ_treepatch_Find_1 L.Δ_treepatch_Find_1 .leaf .any Tryd.f45 [.agg [.x (.string (gS ((gC (vs.getD 0 .any)).getD 0 .any))), .ro .str (gR .str ((gC (vs.getD 0 .any)).getD 1 .any))], .x (.string (gS (vs.getD 1 .any)))] K) (by kernel_rfl) (L.treepatch_Find_1_eq (gS ((gC (vs.getD 0 .any)).getD 0 .any)) (gR .str ((gC (vs.getD 0 .any)).getD 1 .any)) (gS (vs.getD 1 .any)) K)) fun h => (L.treepatch_Find_1.out h)
theorem L.treepatch_Find_1_ok : SoundFn Tryd.prog 45 L.treepatch_Find_1_S :=
  fn_ok (sem := run Tryd.prog L.Γ_treepatch_Find_1 L.Δ_treepatch_Find_1 .leaf .any Tryd.f45) (ss := L.treepatch_Find_1_ss) (G := L.treepatch_Find_1_G) (run_ok L.Γ_treepatch_Find_1_ok L.Δ_treepatch_Find_1_ok Tryd.func45 (ann := .leaf) (annOk_leaf _)) L.treepatch_Find_1_imp
/-- slices.BinarySearchFunc[[]changeforge/api.File,changeforge/api.File,string] -/
def L.Γ_slices_BinarySearchFunc_v3 : Ctx := ctxC L.Γ_treepatch_Find_1 45 L.treepatch_Find_1_S
theorem L.Γ_slices_BinarySearchFunc_v3_ok : SoundG Tryd.prog L.Γ_slices_BinarySearchFunc_v3 := ctxC_ok L.Γ_treepatch_Find_1_ok L.treepatch_Find_1_ok
def L.Δ_slices_BinarySearchFunc_v3 : CtxO := L.Δ_treepatch_Find_1
theorem L.Δ_slices_BinarySearchFunc_v3_ok : SoundGO Tryd.prog L.Δ_slices_BinarySearchFunc_v3 := L.Δ_treepatch_Find_1_ok
def L.slices_BinarySearchFunc_v3_L1_b (x1 : (List (ByteArray × (List ByteArray)))) (target1 : ByteArray) (i_ : Int) (j : Int) (self : Int → Int → Prop) (Kx0 : Int → Prop) : Prop :=
  (bif (decide (i_ < j)) then (0 ≤ (1 : Int)) ∧ (inB (i64 ((IntKind.wrap .u64 (i64 (i_ + j))).fdiv (2 ^ (min (1 : Int).toNat 64)))) x1.length) ∧ L.treepatch_Find_1 ((x1.getD ((i64 ((IntKind.wrap .u64 (i64 (i_ + j))).fdiv (2 ^ (min (1 : Int).toNat 64)))).toNat) (ByteArray.empty, [])).1) ((x1.getD ((i64 ((IntKind.wrap .u64 (i64 (i_ + j))).fdiv (2 ^ (min (1 : Int).toNat 64)))).toNat) (ByteArray.empty, [])).2) target1 (fun r => (bif (decide (r < 0)) then self (i64 ((i64 ((IntKind.wrap .u64 (i64 (i_ + j))).fdiv (2 ^ (min (1 : Int).toNat 64)))) + 1)) j else self i_ (i64 ((IntKind.wrap .u64 (i64 (i_ + j))).fdiv (2 ^ (min (1 : Int).toNat 64)))))) else Kx0 i_)
def L.slices_BinarySearchFunc_v3_L1_R (x1 : (List (ByteArray × (List ByteArray)))) (target1 : ByteArray) : Nat → Int → Int → (Int → Prop) → Prop
  | 0, _, _, _ => False
  | fu + 1, i_, j, Kx0 => L.slices_BinarySearchFunc_v3_L1_b x1 target1 i_ j (fun i_ j => L.slices_BinarySearchFunc_v3_L1_R x1 target1 fu i_ j Kx0) Kx0
structure L.slices_BinarySearchFunc_v3_L1 (x1 : (List (ByteArray × (List ByteArray)))) (target1 : ByteArray) (i_ : Int) (j : Int) (Kx0 : Int → Prop) : Prop where
  out : ∃ fu, L.slices_BinarySearchFunc_v3_L1_R x1 target1 fu i_ j Kx0
def L.slices_BinarySearchFunc_v3_L1_d : LoopD := { base := 0, vecs := [], flds := [], keep := [0, 1, 2, 8, 9, 10], out := [0, 1, 2, 8, 9], rets := [6, 7], rv := [], rbase := 0 }
def L.slices_BinarySearchFunc_v3_L1_ss : List Sh := [.ro (.pair .str (.slice .str)), .str, .fn 45 [] [], .int .i64, .int .i64, .int .i64]
def L.slices_BinarySearchFunc_v3_L1_os : List OSh := []
def L.slices_BinarySearchFunc_v3_L1_G (vs : List V) (st : List Ob) (K : Ex → St) : Prop := L.slices_BinarySearchFunc_v3_L1 (gR (.pair .str (.slice .str)) (vs.getD 0 .any)) (gS (vs.getD 1 .any)) (gI (vs.getD 4 .any)) (gI (vs.getD 5 .any)) (fun q0_ => K (.exit 0) (bld [0, 1, 2, 8, 9] [.ro (.pair .str (.slice .str)) (gR (.pair .str (.slice .str)) (vs.getD 0 .any)), .x (.string (gS (vs.getD 1 .any))), .fn (.func 45) [] [], .xi (gI (vs.getD 3 .any)), .xi q0_] 0 49) [])
def L.slices_BinarySearchFunc_v3_L1_F (vs : List V) (st : List Ob) (K : Ex → St) : Prop := fitF L.slices_BinarySearchFunc_v3_L1_ss L.slices_BinarySearchFunc_v3_L1_os vs st (L.slices_BinarySearchFunc_v3_L1_G vs st K)
theorem L.slices_BinarySearchFunc_v3_L1_eq (x1 : (List (ByteArray × (List ByteArray)))) (target1 : ByteArray) (n : Int) (K : Ex → St) : ∀ (fu : Nat) (i_ : Int) (j : Int), L.slices_BinarySearchFunc_v3_L1_R x1 target1 fu i_ j (fun q0_ => K (.exit 0) (bld [0, 1, 2, 8, 9] [.ro (.pair .str (.slice .str)) x1, .x (.string target1), .fn (.func 45) [] [], .xi n, .xi q0_] 0 49) []) = iterL (stepL (exec Tryd.prog (CC Tryd.prog L.Γ_slices_BinarySearchFunc_v3 L.Δ_slices_BinarySearchFunc_v3) (drawD Tryd.prog L.Γ_slices_BinarySearchFunc_v3 L.Δ_slices_BinarySearchFunc_v3) .leaf (sub [true, true, true, false, false, false] (codeOf Tryd.f44))) 0 L.slices_BinarySearchFunc_v3_L1_d K) fu (bld L.slices_BinarySearchFunc_v3_L1_d.keep [.ro (.pair .str (.slice .str)) x1, .x (.string target1), .fn (.func 45) [] [], .xi n, .xi i_, .xi j] 0 49) [] := by
  intro fu
  induction fu with
  | zero => intros; rfl
  | succ fu ih =>
    intro i_ j
    have e : (fun i_ j => L.slices_BinarySearchFunc_v3_L1_R x1 target1 fu i_ j (fun q0_ => K (.exit 0) (bld [0, 1, 2, 8, 9] [.ro (.pair .str (.slice .str)) x1, .x (.string target1), .fn (.func 45) [] [], .xi n, .xi q0_] 0 49) [])) = fun i_ j => iterL (stepL (exec Tryd.prog (CC Tryd.prog L.Γ_slices_BinarySearchFunc_v3 L.Δ_slices_BinarySearchFunc_v3) (drawD Tryd.prog L.Γ_slices_BinarySearchFunc_v3 L.Δ_slices_BinarySearchFunc_v3) .leaf (sub [true, true, true, false, false, false] (codeOf Tryd.f44))) 0 L.slices_BinarySearchFunc_v3_L1_d K) fu (bld L.slices_BinarySearchFunc_v3_L1_d.keep [.ro (.pair .str (.slice .str)) x1, .x (.string target1), .fn (.func 45) [] [], .xi n, .xi i_, .xi j] 0 49) [] := by
      funext i_ j; exact ih i_ j
    show L.slices_BinarySearchFunc_v3_L1_b x1 target1 i_ j (fun i_ j => L.slices_BinarySearchFunc_v3_L1_R x1 target1 fu i_ j (fun q0_ => K (.exit 0) (bld [0, 1, 2, 8, 9] [.ro (.pair .str (.slice .str)) x1, .x (.string target1), .fn (.func 45) [] [], .xi n, .xi q0_] 0 49) [])) (fun q0_ => K (.exit 0) (bld [0, 1, 2, 8, 9] [.ro (.pair .str (.slice .str)) x1, .x (.string target1), .fn (.func 45) [] [], .xi n, .xi q0_] 0 49) []) = _
    rw [e]
    kernel_rfl
theorem L.slices_BinarySearchFunc_v3_L1_imp (vs : List V) (st : List Ob) (K : Ex → St) (h : L.slices_BinarySearchFunc_v3_L1_G vs st K) : ∃ fu, iterL (stepL (exec Tryd.prog (CC Tryd.prog L.Γ_slices_BinarySearchFunc_v3 L.Δ_slices_BinarySearchFunc_v3) (drawD Tryd.prog L.Γ_slices_BinarySearchFunc_v3 L.Δ_slices_BinarySearchFunc_v3) .leaf (sub [true, true, true, false, false, false] (codeOf Tryd.f44))) 0 L.slices_BinarySearchFunc_v3_L1_d K) fu (bld L.slices_BinarySearchFunc_v3_L1_d.keep (mkL L.slices_BinarySearchFunc_v3_L1_ss 0 vs) 0 49) (mkOs L.slices_BinarySearchFunc_v3_L1_os 0 st) :=
  exMap (fun fu h => @Eq.mp _ _ (Eq.trans (L.slices_BinarySearchFunc_v3_L1_eq (gR (.pair .str (.slice .str)) (vs.getD 0 .any)) (gS (vs.getD 1 .any)) (gI (vs.getD 3 .any)) K fu (gI (vs.getD 4 .any)) (gI (vs.getD 5 .any))) (by kernel_rfl)) h) (L.slices_BinarySearchFunc_v3_L1.out h)
theorem L.slices_BinarySearchFunc_v3_L1_ok : AnnOk Tryd.prog (CC Tryd.prog L.Γ_slices_BinarySearchFunc_v3 L.Δ_slices_BinarySearchFunc_v3) (drawD Tryd.prog L.Γ_slices_BinarySearchFunc_v3 L.Δ_slices_BinarySearchFunc_v3) 0 (.lift L.slices_BinarySearchFunc_v3_L1_d 49 L.slices_BinarySearchFunc_v3_L1_F) (.loop (sub [true, true, true, false, false, false] (codeOf Tryd.f44))) :=
  lift_ok (an := .leaf) (ss := L.slices_BinarySearchFunc_v3_L1_ss) (os := L.slices_BinarySearchFunc_v3_L1_os) (G := L.slices_BinarySearchFunc_v3_L1_G) rfl (Nat.le_of_ble_eq_true rfl) (annOk_leaf _) (L.slices_BinarySearchFunc_v3_L1_imp)
def L.slices_BinarySearchFunc_v3_B (x : (List (ByteArray × (List ByteArray)))) (target : ByteArray) (K : Int → Bool → Prop) : Prop :=
  L.slices_BinarySearchFunc_v3_L1 x target 0 (x.length : Int) (fun i_ => ((((decide (i_ < (x.length : Int))) == true) = true → inB i_ x.length)) ∧ (bif (decide (i_ < (x.length : Int))) then L.treepatch_Find_1 ((x.getD i_.toNat (ByteArray.empty, [])).1) ((x.getD i_.toNat (ByteArray.empty, [])).2) target (fun r => K i_ (bif true then (r == 0) else false)) else K i_ false))
structure L.slices_BinarySearchFunc_v3 (x : (List (ByteArray × (List ByteArray)))) (target : ByteArray) (K : Int → Bool → Prop) : Prop where
  out : L.slices_BinarySearchFunc_v3_B x target K
def L.slices_BinarySearchFunc_v3_ss : List Sh := [.ro (.pair .str (.slice .str)), .str, .fn 45 [] []]
def L.slices_BinarySearchFunc_v3_G (vs : List V) (K : V → List Ob → Prop) : Prop := L.slices_BinarySearchFunc_v3 (gR (.pair .str (.slice .str)) (vs.getD 0 .any)) (gS (vs.getD 1 .any)) (fun r0 r1 => K (.tup [.xi r0, .x (.bool r1)]) [])
def L.slices_BinarySearchFunc_v3_S : SemF := fun args K => argF L.slices_BinarySearchFunc_v3_ss args fun a => L.slices_BinarySearchFunc_v3_G a K
theorem L.slices_BinarySearchFunc_v3_eq (x : (List (ByteArray × (List ByteArray)))) (target : ByteArray) (K : V → List Ob → Prop) : run Tryd.prog L.Γ_slices_BinarySearchFunc_v3 L.Δ_slices_BinarySearchFunc_v3 (.node .leaf (.node .leaf (.node .leaf (.node (.lift L.slices_BinarySearchFunc_v3_L1_d 49 L.slices_BinarySearchFunc_v3_L1_F) .leaf)))) .any Tryd.f44 [.ro (.pair .str (.slice .str)) x, .x (.string target), .fn (.func 45) [] []] K = L.slices_BinarySearchFunc_v3_B x target (fun r0 r1 => K (.tup [.xi r0, .x (.bool r1)]) []) := by
  kernel_rfl
theorem L.slices_BinarySearchFunc_v3_imp (vs : List V) (K : V → List Ob → Prop) : Imp (L.slices_BinarySearchFunc_v3_G vs K) (run Tryd.prog L.Γ_slices_BinarySearchFunc_v3 L.Δ_slices_BinarySearchFunc_v3 (.node .leaf (.node .leaf (.node .leaf (.node (.lift L.slices_BinarySearchFunc_v3_L1_d 49 L.slices_BinarySearchFunc_v3_L1_F) .leaf)))) .any Tryd.f44 (mkL L.slices_BinarySearchFunc_v3_ss 0 vs) K) :=
  Imp.of (Eq.trans (b := run Tryd.prog L.Γ_slices_BinarySearchFunc_v3 L.Δ_slices_BinarySearchFunc_v3 (.node .leaf (.node .leaf (.node .leaf (.node (.lift L.slices_BinarySearchFunc_v3_L1_d 49 L.slices_BinarySearchFunc_v3_L1_F) .leaf)))) .any Tryd.f44 [.ro (.pair .str (.slice .str)) (gR (.pair .str (.slice .str)) (vs.getD 0 .any)), .x (.string (gS (vs.getD 1 .any))), .fn (.func 45) [] []] K) (by kernel_rfl) (L.slices_BinarySearchFunc_v3_eq (gR (.pair .str (.slice .str)) (vs.getD 0 .any)) (gS (vs.getD 1 .any)) K)) fun h => (L.slices_BinarySearchFunc_v3.out h)
theorem L.slices_BinarySearchFunc_v3_ok : SoundFn Tryd.prog 44 L.slices_BinarySearchFunc_v3_S :=
  fn_ok (sem := run Tryd.prog L.Γ_slices_BinarySearchFunc_v3 L.Δ_slices_BinarySearchFunc_v3 (.node .leaf (.node .leaf (.node .leaf (.node (.lift L.slices_BinarySearchFunc_v3_L1_d 49 L.slices_BinarySearchFunc_v3_L1_F) .leaf)))) .any Tryd.f44) (ss := L.slices_BinarySearchFunc_v3_ss) (G := L.slices_BinarySearchFunc_v3_G) (run_ok L.Γ_slices_BinarySearchFunc_v3_ok L.Δ_slices_BinarySearchFunc_v3_ok Tryd.func44 (ann := (.node .leaf (.node .leaf (.node .leaf (.node (.lift L.slices_BinarySearchFunc_v3_L1_d 49 L.slices_BinarySearchFunc_v3_L1_F) .leaf))))) ⟨(annOk_leaf _), ⟨(annOk_leaf _), ⟨(annOk_leaf _), ⟨L.slices_BinarySearchFunc_v3_L1_ok, (annOk_leaf _)⟩⟩⟩⟩) L.slices_BinarySearchFunc_v3_imp
/-- changeforge/treepatch.Find -/
def L.Γ_treepatch_Find : Ctx := ctxA L.Γ_slices_BinarySearchFunc_v3 44 L.slices_BinarySearchFunc_v3_ss L.slices_BinarySearchFunc_v3_G
theorem L.Γ_treepatch_Find_ok : SoundG Tryd.prog L.Γ_treepatch_Find := ctxA_ok L.Γ_slices_BinarySearchFunc_v3_ok L.slices_BinarySearchFunc_v3_ok
def L.Δ_treepatch_Find : CtxO := L.Δ_slices_BinarySearchFunc_v3
theorem L.Δ_treepatch_Find_ok : SoundGO Tryd.prog L.Δ_treepatch_Find := L.Δ_slices_BinarySearchFunc_v3_ok
def L.treepatch_Find_B (files : (List (ByteArray × (List ByteArray)))) (path : ByteArray) (K : Int → Bool → Prop) : Prop :=
  L.slices_BinarySearchFunc_v3 files path (fun r r1 => K r r1)
structure L.treepatch_Find (files : (List (ByteArray × (List ByteArray)))) (path : ByteArray) (K : Int → Bool → Prop) : Prop where
  out : L.treepatch_Find_B files path K
def L.treepatch_Find_ss : List Sh := [.ro (.pair .str (.slice .str)), .str]
def L.treepatch_Find_G (vs : List V) (K : V → List Ob → Prop) : Prop := L.treepatch_Find (gR (.pair .str (.slice .str)) (vs.getD 0 .any)) (gS (vs.getD 1 .any)) (fun r0 r1 => K (.tup [.xi r0, .x (.bool r1)]) [])
def L.treepatch_Find_S : SemF := fun args K => argF L.treepatch_Find_ss args fun a => L.treepatch_Find_G a K
theorem L.treepatch_Find_eq (files : (List (ByteArray × (List ByteArray)))) (path : ByteArray) (K : V → List Ob → Prop) : run Tryd.prog L.Γ_treepatch_Find L.Δ_treepatch_Find .leaf .any Tryd.f24 [.ro (.pair .str (.slice .str)) files, .x (.string path)] K = L.treepatch_Find_B files path (fun r0 r1 => K (.tup [.xi r0, .x (.bool r1)]) []) := by
  kernel_rfl
theorem L.treepatch_Find_imp (vs : List V) (K : V → List Ob → Prop) : Imp (L.treepatch_Find_G vs K) (run Tryd.prog L.Γ_treepatch_Find L.Δ_treepatch_Find .leaf .any Tryd.f24 (mkL L.treepatch_Find_ss 0 vs) K) :=
  Imp.of (Eq.trans (b := run Tryd.prog L.Γ_treepatch_Find L.Δ_treepatch_Find .leaf .any Tryd.f24 [.ro (.pair .str (.slice .str)) (gR (.pair .str (.slice .str)) (vs.getD 0 .any)), .x (.string (gS (vs.getD 1 .any)))] K) (by kernel_rfl) (L.treepatch_Find_eq (gR (.pair .str (.slice .str)) (vs.getD 0 .any)) (gS (vs.getD 1 .any)) K)) fun h => (L.treepatch_Find.out h)
theorem L.treepatch_Find_ok : SoundFn Tryd.prog 24 L.treepatch_Find_S :=
  fn_ok (sem := run Tryd.prog L.Γ_treepatch_Find L.Δ_treepatch_Find .leaf .any Tryd.f24) (ss := L.treepatch_Find_ss) (G := L.treepatch_Find_G) (run_ok L.Γ_treepatch_Find_ok L.Δ_treepatch_Find_ok Tryd.func24 (ann := .leaf) (annOk_leaf _)) L.treepatch_Find_imp
/-- changeforge/treepatch.Put -/
def L.Γ_treepatch_Put_h6 : Ctx := ctxC L.Γ_treepatch_Find 24 L.treepatch_Find_S
theorem L.Γ_treepatch_Put_h6_ok : SoundG Tryd.prog L.Γ_treepatch_Put_h6 := ctxC_ok L.Γ_treepatch_Find_ok L.treepatch_Find_ok
def L.Δ_treepatch_Put_h6 : CtxO := L.Δ_treepatch_Find
theorem L.Δ_treepatch_Put_h6_ok : SoundGO Tryd.prog L.Δ_treepatch_Put_h6 := L.Δ_treepatch_Find_ok
def L.treepatch_Put_h6_J1_B (l1 : (List ByteArray)) (k : Int) (m2 : (List (ByteArray × (List ByteArray)))) (Kn : (List (ByteArray × (List ByteArray))) → Prop) : Prop :=
  (L.slices_Clone l1 (fun r2 => (inB k m2.length) ∧ Kn (m2.set k.toNat ((m2.getD k.toNat (ByteArray.empty, [])).1, r2)))) ∧ L.slices_Clone l1 (fun r3 => (inB k m2.length) ∧ Kn (m2.set k.toNat ((m2.getD k.toNat (ByteArray.empty, [])).1, r3)))
structure L.treepatch_Put_h6_J1 (l1 : (List ByteArray)) (k : Int) (m2 : (List (ByteArray × (List ByteArray)))) (Kn : (List (ByteArray × (List ByteArray))) → Prop) : Prop where
  out : L.treepatch_Put_h6_J1_B l1 k m2 Kn
def L.treepatch_Put_h6_J1_d : CutD := { base := 2, vecs := [], flds := [(0, 0, .sl (.pair .str (.slice .str)))], keep := [0, 2, 6], out := [], rets := [], ovecs := [], oflds := [(0, 0, .mv (.pair .str (.slice .str)))], rv := [], rbase := 2 }
def L.treepatch_Put_h6_J1_ss : List Sh := [.cl 0 0, .ro .str, .int .i64]
def L.treepatch_Put_h6_J1_os : List OSh := [.cells [.vec 2], .dead, .vec (.pair .str (.slice .str)) true]
def L.treepatch_Put_h6_J1_G (vs : List V) (st : List Ob) (K : Ex → St) : Prop := L.treepatch_Put_h6_J1 (gR .str (vs.getD 1 .any)) (gI (vs.getD 2 .any)) (oX (.pair .str (.slice .str)) (st.getD 2 .dead)) (fun q0_ => K .normal (bld [] [] 0 40) [.cells [.vec 2], .dead, .vec (.pair .str (.slice .str)) 0 q0_])
def L.treepatch_Put_h6_J1_F (vs : List V) (st : List Ob) (K : Ex → St) : Prop := fitF L.treepatch_Put_h6_J1_ss L.treepatch_Put_h6_J1_os vs st (L.treepatch_Put_h6_J1_G vs st K)
theorem L.treepatch_Put_h6_J1_eq (l1 : (List ByteArray)) (k : Int) (m2 : (List (ByteArray × (List ByteArray)))) (K : Ex → St) : L.treepatch_Put_h6_J1_B l1 k m2 (fun q0_ => K .normal (bld [] [] 0 40) [.cells [.vec 2], .dead, .vec (.pair .str (.slice .str)) 0 q0_]) = exec Tryd.prog (CC Tryd.prog L.Γ_treepatch_Put_h6 L.Δ_treepatch_Put_h6) (drawD Tryd.prog L.Γ_treepatch_Put_h6 L.Δ_treepatch_Put_h6) .leaf (sub [true, true] (codeOf Tryd.f53)) (bld L.treepatch_Put_h6_J1_d.keep [.cl 0 0, .ro .str l1, .xi k] 0 40) [.cells [.vec 2], .dead, .vec (.pair .str (.slice .str)) 0 m2] (cutK L.treepatch_Put_h6_J1_d K) := by
  kernel_rfl
theorem L.treepatch_Put_h6_J1_ok (vs : List V) (st : List Ob) (K : Ex → St) : Imp (L.treepatch_Put_h6_J1_G vs st K) (exec Tryd.prog (CC Tryd.prog L.Γ_treepatch_Put_h6 L.Δ_treepatch_Put_h6) (drawD Tryd.prog L.Γ_treepatch_Put_h6 L.Δ_treepatch_Put_h6) .leaf (sub [true, true] (codeOf Tryd.f53)) (bld L.treepatch_Put_h6_J1_d.keep (mkL L.treepatch_Put_h6_J1_ss 0 vs) 0 40) (mkOs L.treepatch_Put_h6_J1_os 0 st) (cutK L.treepatch_Put_h6_J1_d K)) :=
  Imp.of (Eq.trans (b := exec Tryd.prog (CC Tryd.prog L.Γ_treepatch_Put_h6 L.Δ_treepatch_Put_h6) (drawD Tryd.prog L.Γ_treepatch_Put_h6 L.Δ_treepatch_Put_h6) .leaf (sub [true, true] (codeOf Tryd.f53)) (bld L.treepatch_Put_h6_J1_d.keep [.cl 0 0, .ro .str (gR .str (vs.getD 1 .any)), .xi (gI (vs.getD 2 .any))] 0 40) [.cells [.vec 2], .dead, .vec (.pair .str (.slice .str)) 0 (oX (.pair .str (.slice .str)) (st.getD 2 .dead))] (cutK L.treepatch_Put_h6_J1_d K)) (by kernel_rfl) (Eq.symm (L.treepatch_Put_h6_J1_eq (gR .str (vs.getD 1 .any)) (gI (vs.getD 2 .any)) (oX (.pair .str (.slice .str)) (st.getD 2 .dead)) K))) fun h => (L.treepatch_Put_h6_J1.out h)
def L.treepatch_Put_h6_B (path : ByteArray) (l : (List ByteArray)) (m1 : (List (ByteArray × (List ByteArray)))) (K : (List (ByteArray × (List ByteArray))) → Prop) : Prop :=
  L.treepatch_Find m1 path (fun r r1 => (bif (!r1) then (0 ≤ r ∧ r ≤ (m1.length : Int) ∧ ([(path, ([] : List ByteArray))] : List (ByteArray × (List ByteArray))).length ≠ 0 ∧ fits (m1.length + ([(path, ([] : List ByteArray))] : List (ByteArray × (List ByteArray))).length)) ∧ L.treepatch_Put_h6_J1 l r ((m1.take r.toNat ++ ([(path, ([] : List ByteArray))] : List (ByteArray × (List ByteArray)))) ++ m1.drop r.toNat) K else L.treepatch_Put_h6_J1 l r m1 K))
structure L.treepatch_Put_h6 (path : ByteArray) (l : (List ByteArray)) (m1 : (List (ByteArray × (List ByteArray)))) (K : (List (ByteArray × (List ByteArray))) → Prop) : Prop where
  out : L.treepatch_Put_h6_B path l m1 K
def L.treepatch_Put_h6_ss : List Sh := [.cl 0 0, .str, .ro .str]
def L.treepatch_Put_h6_os : List OSh := [.cells [.vec 1], .vec (.pair .str (.slice .str)) true]
def L.treepatch_Put_h6_G (vs : List V) (st : List Ob) (K : V → List Ob → Prop) : Prop := L.treepatch_Put_h6 (gS (vs.getD 1 .any)) (gR .str (vs.getD 2 .any)) (oX (.pair .str (.slice .str)) (st.getD 1 .dead)) (fun r0 => K (.tup []) [.cells [.vec 2], .dead, .vec (.pair .str (.slice .str)) 0 r0])
def L.treepatch_Put_h6_S : SemO := fun args st K => argO L.treepatch_Put_h6_ss L.treepatch_Put_h6_os args st fun a s => L.treepatch_Put_h6_G a s K
theorem L.treepatch_Put_h6_eq (path : ByteArray) (l : (List ByteArray)) (m1 : (List (ByteArray × (List ByteArray)))) (K : V → List Ob → Prop) : runH Tryd.prog L.Γ_treepatch_Put_h6 L.Δ_treepatch_Put_h6 (.node .leaf (.cut .leaf L.treepatch_Put_h6_J1_d 40 L.treepatch_Put_h6_J1_F)) (.tup []) [] Tryd.f53 false 2 [.cl 0 0, .x (.string path), .ro .str l] [.cells [.vec 1], .vec (.pair .str (.slice .str)) 0 m1] K = L.treepatch_Put_h6_B path l m1 (fun r0 => K (.tup []) [.cells [.vec 2], .dead, .vec (.pair .str (.slice .str)) 0 r0]) := by
  kernel_rfl
theorem L.treepatch_Put_h6_imp (vs : List V) (st : List Ob) (K : V → List Ob → Prop) : Imp (L.treepatch_Put_h6_G vs st K) (runH Tryd.prog L.Γ_treepatch_Put_h6 L.Δ_treepatch_Put_h6 (.node .leaf (.cut .leaf L.treepatch_Put_h6_J1_d 40 L.treepatch_Put_h6_J1_F)) (.tup []) [] Tryd.f53 false 2 (mkL L.treepatch_Put_h6_ss 0 vs) (mkOs L.treepatch_Put_h6_os 0 st) K) :=
  Imp.of (Eq.trans (b := runH Tryd.prog L.Γ_treepatch_Put_h6 L.Δ_treepatch_Put_h6 (.node .leaf (.cut .leaf L.treepatch_Put_h6_J1_d 40 L.treepatch_Put_h6_J1_F)) (.tup []) [] Tryd.f53 false 2 [.cl 0 0, .x (.string (gS (vs.getD 1 .any))), .ro .str (gR .str (vs.getD 2 .any))] [.cells [.vec 1], .vec (.pair .str (.slice .str)) 0 (oX (.pair .str (.slice .str)) (st.getD 1 .dead))] K) (by kernel_rfl) (L.treepatch_Put_h6_eq (gS (vs.getD 1 .any)) (gR .str (vs.getD 2 .any)) (oX (.pair .str (.slice .str)) (st.getD 1 .dead)) K)) fun h => (L.treepatch_Put_h6.out h)
theorem L.treepatch_Put_h6_ok : SoundO Tryd.prog 53 L.treepatch_Put_h6_S :=
  fnO_ok (sem := runH Tryd.prog L.Γ_treepatch_Put_h6 L.Δ_treepatch_Put_h6 (.node .leaf (.cut .leaf L.treepatch_Put_h6_J1_d 40 L.treepatch_Put_h6_J1_F)) (.tup []) [] Tryd.f53 false 2) (ss := L.treepatch_Put_h6_ss) (os := L.treepatch_Put_h6_os) (G := L.treepatch_Put_h6_G) (runH_ok L.Γ_treepatch_Put_h6_ok L.Δ_treepatch_Put_h6_ok Tryd.func53 (ann := (.node .leaf (.cut .leaf L.treepatch_Put_h6_J1_d 40 L.treepatch_Put_h6_J1_F))) rfl ⟨(annOk_leaf _), (cut_ok (ay := .leaf) (ss := L.treepatch_Put_h6_J1_ss) (os := L.treepatch_Put_h6_J1_os) (G := L.treepatch_Put_h6_J1_G) rfl (annOk_leaf _) (Nat.le_of_ble_eq_true rfl) (Nat.le_of_ble_eq_true rfl) (annOk_leaf _) L.treepatch_Put_h6_J1_ok)⟩) L.treepatch_Put_h6_imp
/-- changeforge/treepatch.make1 -/
def L.Γ_treepatch_make1_h5 : Ctx := L.Γ_treepatch_Put_h6
theorem L.Γ_treepatch_make1_h5_ok : SoundG Tryd.prog L.Γ_treepatch_make1_h5 := L.Γ_treepatch_Put_h6_ok
def L.Δ_treepatch_make1_h5 : CtxO := ctxE L.Δ_treepatch_Put_h6 53 [.any, .any, .sl .str] L.treepatch_Put_h6_ss L.treepatch_Put_h6_os L.treepatch_Put_h6_G
theorem L.Δ_treepatch_make1_h5_ok : SoundGO Tryd.prog L.Δ_treepatch_make1_h5 := ctxE_ok L.Δ_treepatch_Put_h6_ok L.treepatch_Put_h6_ok
def L.treepatch_make1_h5_B (c : Int) (c1 : ByteArray) (c2 : ByteArray) (c3 : (List ByteArray)) (c4 : L.T6) (m1 : (List (ByteArray × (List ByteArray)))) (K : Int → (List (ByteArray × (List ByteArray))) → Prop) : Prop :=
  L.treepatch_Find m1 c1 (fun r r1 => (bif (c == 1) then L.treepatch_Clash m1 c1 (-1) (fun r2 => (bif r2 then K 7 m1 else (bif (decide ((m1.length : Int) ≥ 24)) then K 14 m1 else L.treepatch_Put_h6 c1 c3 m1 (fun r3 => K 0 r3)))) else (bif (!r1) then K 6 m1 else (inB r m1.length) ∧ (bif (c == 2) then L.slices_Equal ((m1.getD r.toNat (ByteArray.empty, [])).2) c3 (fun r4 => (bif (!r4) then K 19 m1 else (0 ≤ r ∧ r < (i64 (r + 1)) ∧ (i64 (r + 1)) ≤ (m1.length : Int) ∧ fits m1.length) ∧ K 0 (m1.take r.toNat ++ m1.drop (i64 (r + 1)).toNat))) else (bif (c == 3) then L.treepatch_Clash m1 c2 r (fun r5 => (bif r5 then K 7 m1 else (0 ≤ r ∧ r < (i64 (r + 1)) ∧ (i64 (r + 1)) ≤ (m1.length : Int) ∧ fits m1.length) ∧ L.treepatch_Put_h6 c2 ((m1.getD r.toNat (ByteArray.empty, [])).2) (m1.take r.toNat ++ m1.drop (i64 (r + 1)).toNat) (fun r6 => K 0 r6))) else L.textpatch_Apply c4 ((m1.getD r.toNat (ByteArray.empty, [])).2) (fun r7 rCode rIndex => (bif (!((rCode == 0) && ((rIndex == 0) && true))) then K rCode m1 else (inB r m1.length) ∧ K 0 (m1.set r.toNat ((m1.getD r.toNat (ByteArray.empty, [])).1, r7)))))))))
structure L.treepatch_make1_h5 (c : Int) (c1 : ByteArray) (c2 : ByteArray) (c3 : (List ByteArray)) (c4 : L.T6) (m1 : (List (ByteArray × (List ByteArray)))) (K : Int → (List (ByteArray × (List ByteArray))) → Prop) : Prop where
  out : L.treepatch_make1_h5_B c c1 c2 c3 c4 m1 K
def L.treepatch_make1_h5_ss : List Sh := [.agg [.int .i64, .str, .str, .ro .str, .ro L.T5], .cl 0 0]
def L.treepatch_make1_h5_os : List OSh := [.cells [.vec 1], .vec (.pair .str (.slice .str)) true]
def L.treepatch_make1_h5_G (vs : List V) (st : List Ob) (K : V → List Ob → Prop) : Prop := L.treepatch_make1_h5 (gI ((gC (vs.getD 0 .any)).getD 0 .any)) (gS ((gC (vs.getD 0 .any)).getD 1 .any)) (gS ((gC (vs.getD 0 .any)).getD 2 .any)) (gR .str ((gC (vs.getD 0 .any)).getD 3 .any)) (gR L.T5 ((gC (vs.getD 0 .any)).getD 4 .any)) (oX (.pair .str (.slice .str)) (st.getD 1 .dead)) (fun r0 r1 => K (.xi r0) [.cells [.vec 2], .dead, .vec (.pair .str (.slice .str)) 0 r1])
def L.treepatch_make1_h5_S : SemO := fun args st K => argO L.treepatch_make1_h5_ss L.treepatch_make1_h5_os args st fun a s => L.treepatch_make1_h5_G a s K
theorem L.treepatch_make1_h5_eq (c : Int) (c1 : ByteArray) (c2 : ByteArray) (c3 : (List ByteArray)) (c4 : L.T6) (m1 : (List (ByteArray × (List ByteArray)))) (K : V → List Ob → Prop) : runH Tryd.prog L.Γ_treepatch_make1_h5 L.Δ_treepatch_make1_h5 .leaf .any [(0, 0, .mv (.pair .str (.slice .str)))] Tryd.f30 false 2 [.agg [.xi c, .x (.string c1), .x (.string c2), .ro .str c3, .ro L.T5 c4], .cl 0 0] [.cells [.vec 1], .vec (.pair .str (.slice .str)) 0 m1] K = L.treepatch_make1_h5_B c c1 c2 c3 c4 m1 (fun r0 r1 => K (.xi r0) [.cells [.vec 2], .dead, .vec (.pair .str (.slice .str)) 0 r1]) := by
  kernel_rfl
theorem L.treepatch_make1_h5_imp (vs : List V) (st : List Ob) (K : V → List Ob → Prop) : Imp (L.treepatch_make1_h5_G vs st K) (runH Tryd.prog L.Γ_treepatch_make1_h5 L.Δ_treepatch_make1_h5 .leaf .any [(0, 0, .mv (.pair .str (.slice .str)))] Tryd.f30 false 2 (mkL L.treepatch_make1_h5_ss 0 vs) (mkOs L.treepatch_make1_h5_os 0 st) K) :=
  Imp.of (Eq.trans (b := runH Tryd.prog L.Γ_treepatch_make1_h5 L.Δ_treepatch_make1_h5 .leaf .any [(0, 0, .mv (.pair .str (.slice .str)))] Tryd.f30 false 2 [.agg [.xi (gI ((gC (vs.getD 0 .any)).getD 0 .any)), .x (.string (gS ((gC (vs.getD 0 .any)).getD 1 .any))), .x (.string (gS ((gC (vs.getD 0 .any)).getD 2 .any))), .ro .str (gR .str ((gC (vs.getD 0 .any)).getD 3 .any)), .ro L.T5 (gR L.T5 ((gC (vs.getD 0 .any)).getD 4 .any))], .cl 0 0] [.cells [.vec 1], .vec (.pair .str (.slice .str)) 0 (oX (.pair .str (.slice .str)) (st.getD 1 .dead))] K) (by kernel_rfl) (L.treepatch_make1_h5_eq (gI ((gC (vs.getD 0 .any)).getD 0 .any)) (gS ((gC (vs.getD 0 .any)).getD 1 .any)) (gS ((gC (vs.getD 0 .any)).getD 2 .any)) (gR .str ((gC (vs.getD 0 .any)).getD 3 .any)) (gR L.T5 ((gC (vs.getD 0 .any)).getD 4 .any)) (oX (.pair .str (.slice .str)) (st.getD 1 .dead)) K)) fun h => (L.treepatch_make1_h5.out h)
theorem L.treepatch_make1_h5_ok : SoundO Tryd.prog 30 L.treepatch_make1_h5_S :=
  fnO_ok (sem := runH Tryd.prog L.Γ_treepatch_make1_h5 L.Δ_treepatch_make1_h5 .leaf .any [(0, 0, .mv (.pair .str (.slice .str)))] Tryd.f30 false 2) (ss := L.treepatch_make1_h5_ss) (os := L.treepatch_make1_h5_os) (G := L.treepatch_make1_h5_G) (runH_ok L.Γ_treepatch_make1_h5_ok L.Δ_treepatch_make1_h5_ok Tryd.func30 (ann := .leaf) rfl (annOk_leaf _)) L.treepatch_make1_h5_imp
/-- changeforge/treepatch.Apply -/
def L.Γ_treepatch_Apply_h7 : Ctx := L.Γ_treepatch_make1_h5
theorem L.Γ_treepatch_Apply_h7_ok : SoundG Tryd.prog L.Γ_treepatch_Apply_h7 := L.Γ_treepatch_make1_h5_ok
def L.Δ_treepatch_Apply_h7 : CtxO := ctxE L.Δ_treepatch_make1_h5 30 [.any, .any] L.treepatch_make1_h5_ss L.treepatch_make1_h5_os L.treepatch_make1_h5_G
theorem L.Δ_treepatch_Apply_h7_ok : SoundGO Tryd.prog L.Δ_treepatch_Apply_h7 := ctxE_ok L.Δ_treepatch_make1_h5_ok L.treepatch_make1_h5_ok
def L.treepatch_Apply_h7_L1_b (v29 : (List (Int × (ByteArray × (ByteArray × ((List ByteArray) × L.T6)))))) (v30 : Int) (v31 : Int) (m8 : (List (ByteArray × (List ByteArray)))) (self : Int → (List (ByteArray × (List ByteArray))) → Prop) (Kx0 : (List (ByteArray × (List ByteArray))) → Prop) (Kr : Int → Int → Prop) : Prop :=
  (bif (decide (v31 < v30)) then (inB v31 v29.length) ∧ L.treepatch_make1_h5 ((v29.getD v31.toNat (0, (ByteArray.empty, (ByteArray.empty, ([], []))))).1) ((v29.getD v31.toNat (0, (ByteArray.empty, (ByteArray.empty, ([], []))))).2.1) ((v29.getD v31.toNat (0, (ByteArray.empty, (ByteArray.empty, ([], []))))).2.2.1) ((v29.getD v31.toNat (0, (ByteArray.empty, (ByteArray.empty, ([], []))))).2.2.2.1) ((v29.getD v31.toNat (0, (ByteArray.empty, (ByteArray.empty, ([], []))))).2.2.2.2) m8 (fun r1 r2 => (bif (r1 != 0) then Kr r1 v31 else self (i64 (v31 + 1)) r2)) else Kx0 m8)
def L.treepatch_Apply_h7_L1_R (v29 : (List (Int × (ByteArray × (ByteArray × ((List ByteArray) × L.T6)))))) (v30 : Int) : Nat → Int → (List (ByteArray × (List ByteArray))) → ((List (ByteArray × (List ByteArray))) → Prop) → (Int → Int → Prop) → Prop
  | 0, _, _, _, _ => False
  | fu + 1, v31, m8, Kx0, Kr => L.treepatch_Apply_h7_L1_b v29 v30 v31 m8 (fun v31 m8 => L.treepatch_Apply_h7_L1_R v29 v30 fu v31 m8 Kx0 Kr) Kx0 Kr
structure L.treepatch_Apply_h7_L1 (v29 : (List (Int × (ByteArray × (ByteArray × ((List ByteArray) × L.T6)))))) (v30 : Int) (v31 : Int) (m8 : (List (ByteArray × (List ByteArray)))) (Kx0 : (List (ByteArray × (List ByteArray))) → Prop) (Kr : Int → Int → Prop) : Prop where
  out : ∃ fu, L.treepatch_Apply_h7_L1_R v29 v30 fu v31 m8 Kx0 Kr
def L.treepatch_Apply_h7_L1_d : LoopD := { base := 8, vecs := [], flds := [(7, 0, .sl (.pair .str (.slice .str)))], keep := [4, 5, 8, 29, 30, 31], out := [4, 5, 8], rets := [4, 5], rv := [], rbase := 0 }
def L.treepatch_Apply_h7_L1_ss : List Sh := [.cl 2 0, .cl 3 0, .cl 7 0, .ro L.T0, .int .i64, .int .i64]
def L.treepatch_Apply_h7_L1_os : List OSh := [.cells [.ro L.T0], .cells [.ro (.pair .str (.slice .str))], .cells [.nil], .cells [.int .i64, .int .i64], .cells [.int .i64, .int .i64], .cells [.int .i64, .int .i64], .dead, .cells [.vec 8], .vec (.pair .str (.slice .str)) true]
def L.treepatch_Apply_h7_L1_G (vs : List V) (st : List Ob) (K : Ex → St) : Prop := L.treepatch_Apply_h7_L1 (gR L.T0 (vs.getD 3 .any)) (gI (vs.getD 4 .any)) (gI (vs.getD 5 .any)) (oX (.pair .str (.slice .str)) (st.getD 8 .dead)) (fun q0_ => K (.exit 0) (bld [4, 5, 8] [.cl 2 0, .cl 3 0, .cl 7 0] 0 47) [.cells [.ro L.T0 (gR L.T0 ((oC (st.getD 0 .dead)).getD 0 .any))], .cells [.ro (.pair .str (.slice .str)) (gR (.pair .str (.slice .str)) ((oC (st.getD 1 .dead)).getD 0 .any))], .cells [.x (.slice none 0 0)], .cells [.xi (cI st 3 0), .xi (cI st 3 1)], .cells [.xi (cI st 4 0), .xi (cI st 4 1)], .cells [.xi (cI st 5 0), .xi (cI st 5 1)], .dead, .cells [.vec 8], .vec (.pair .str (.slice .str)) 0 q0_]) (fun q0_ q1_ => K .ret (bld [4, 5] [.cl 0 0, .cl 1 0] 0 47) [.cells [.x (.slice none 0 0)], .cells [.xi q0_, .xi q1_]])
def L.treepatch_Apply_h7_L1_F (vs : List V) (st : List Ob) (K : Ex → St) : Prop := fitF L.treepatch_Apply_h7_L1_ss L.treepatch_Apply_h7_L1_os vs st (L.treepatch_Apply_h7_L1_G vs st K)
theorem L.treepatch_Apply_h7_L1_eq (v29 : (List (Int × (ByteArray × (ByteArray × ((List ByteArray) × L.T6)))))) (v30 : Int) (m0 : (List (Int × (ByteArray × (ByteArray × ((List ByteArray) × L.T6)))))) (m1 : (List (ByteArray × (List ByteArray)))) (m3 : Int) (m31 : Int) (m4 : Int) (m41 : Int) (m5 : Int) (m51 : Int) (K : Ex → St) : ∀ (fu : Nat) (v31 : Int) (m8 : (List (ByteArray × (List ByteArray)))), L.treepatch_Apply_h7_L1_R v29 v30 fu v31 m8 (fun q0_ => K (.exit 0) (bld [4, 5, 8] [.cl 2 0, .cl 3 0, .cl 7 0] 0 47) [.cells [.ro L.T0 m0], .cells [.ro (.pair .str (.slice .str)) m1], .cells [.x (.slice none 0 0)], .cells [.xi m3, .xi m31], .cells [.xi m4, .xi m41], .cells [.xi m5, .xi m51], .dead, .cells [.vec 8], .vec (.pair .str (.slice .str)) 0 q0_]) (fun q0_ q1_ => K .ret (bld [4, 5] [.cl 0 0, .cl 1 0] 0 47) [.cells [.x (.slice none 0 0)], .cells [.xi q0_, .xi q1_]]) = iterL (stepL (exec Tryd.prog (CC Tryd.prog L.Γ_treepatch_Apply_h7 L.Δ_treepatch_Apply_h7) (drawD Tryd.prog L.Γ_treepatch_Apply_h7 L.Δ_treepatch_Apply_h7) .leaf (sub [true, true, true, true, false, true, false, false] (codeOf Tryd.f11))) 8 L.treepatch_Apply_h7_L1_d K) fu (bld L.treepatch_Apply_h7_L1_d.keep [.cl 2 0, .cl 3 0, .cl 7 0, .ro L.T0 v29, .xi v30, .xi v31] 0 47) [.cells [.ro L.T0 m0], .cells [.ro (.pair .str (.slice .str)) m1], .cells [.x (.slice none 0 0)], .cells [.xi m3, .xi m31], .cells [.xi m4, .xi m41], .cells [.xi m5, .xi m51], .dead, .cells [.vec 8], .vec (.pair .str (.slice .str)) 0 m8] := by
  intro fu
  induction fu with
  | zero => intros; rfl
  | succ fu ih =>
    intro v31 m8
    have e : (fun v31 m8 => L.treepatch_Apply_h7_L1_R v29 v30 fu v31 m8 (fun q0_ => K (.exit 0) (bld [4, 5, 8] [.cl 2 0, .cl 3 0, .cl 7 0] 0 47) [.cells [.ro L.T0 m0], .cells [.ro (.pair .str (.slice .str)) m1], .cells [.x (.slice none 0 0)], .cells [.xi m3, .xi m31], .cells [.xi m4, .xi m41], .cells [.xi m5, .xi m51], .dead, .cells [.vec 8], .vec (.pair .str (.slice .str)) 0 q0_]) (fun q0_ q1_ => K .ret (bld [4, 5] [.cl 0 0, .cl 1 0] 0 47) [.cells [.x (.slice none 0 0)], .cells [.xi q0_, .xi q1_]])) = fun v31 m8 => iterL (stepL (exec Tryd.prog (CC Tryd.prog L.Γ_treepatch_Apply_h7 L.Δ_treepatch_Apply_h7) (drawD Tryd.prog L.Γ_treepatch_Apply_h7 L.Δ_treepatch_Apply_h7) .leaf (sub [true, true, true, true, false, true, false, false] (codeOf Tryd.f11))) 8 L.treepatch_Apply_h7_L1_d K) fu (bld L.treepatch_Apply_h7_L1_d.keep [.cl 2 0, .cl 3 0, .cl 7 0, .ro L.T0 v29, .xi v30, .xi v31] 0 47) [.cells [.ro L.T0 m0], .cells [.ro (.pair .str (.slice .str)) m1], .cells [.x (.slice none 0 0)], .cells [.xi m3, .xi m31], .cells [.xi m4, .xi m41], .cells [.xi m5, .xi m51], .dead, .cells [.vec 8], .vec (.pair .str (.slice .str)) 0 m8] := by
      funext v31 m8; exact ih v31 m8
    show L.treepatch_Apply_h7_L1_b v29 v30 v31 m8 (fun v31 m8 => L.treepatch_Apply_h7_L1_R v29 v30 fu v31 m8 (fun q0_ => K (.exit 0) (bld [4, 5, 8] [.cl 2 0, .cl 3 0, .cl 7 0] 0 47) [.cells [.ro L.T0 m0], .cells [.ro (.pair .str (.slice .str)) m1], .cells [.x (.slice none 0 0)], .cells [.xi m3, .xi m31], .cells [.xi m4, .xi m41], .cells [.xi m5, .xi m51], .dead, .cells [.vec 8], .vec (.pair .str (.slice .str)) 0 q0_]) (fun q0_ q1_ => K .ret (bld [4, 5] [.cl 0 0, .cl 1 0] 0 47) [.cells [.x (.slice none 0 0)], .cells [.xi q0_, .xi q1_]])) (fun q0_ => K (.exit 0) (bld [4, 5, 8] [.cl 2 0, .cl 3 0, .cl 7 0] 0 47) [.cells [.ro L.T0 m0], .cells [.ro (.pair .str (.slice .str)) m1], .cells [.x (.slice none 0 0)], .cells [.xi m3, .xi m31], .cells [.xi m4, .xi m41], .cells [.xi m5, .xi m51], .dead, .cells [.vec 8], .vec (.pair .str (.slice .str)) 0 q0_]) (fun q0_ q1_ => K .ret (bld [4, 5] [.cl 0 0, .cl 1 0] 0 47) [.cells [.x (.slice none 0 0)], .cells [.xi q0_, .xi q1_]]) = _
    rw [e]
    kernel_rfl
theorem L.treepatch_Apply_h7_L1_imp (vs : List V) (st : List Ob) (K : Ex → St) (h : L.treepatch_Apply_h7_L1_G vs st K) : ∃ fu, iterL (stepL (exec Tryd.prog (CC Tryd.prog L.Γ_treepatch_Apply_h7 L.Δ_treepatch_Apply_h7) (drawD Tryd.prog L.Γ_treepatch_Apply_h7 L.Δ_treepatch_Apply_h7) .leaf (sub [true, true, true, true, false, true, false, false] (codeOf Tryd.f11))) 8 L.treepatch_Apply_h7_L1_d K) fu (bld L.treepatch_Apply_h7_L1_d.keep (mkL L.treepatch_Apply_h7_L1_ss 0 vs) 0 47) (mkOs L.treepatch_Apply_h7_L1_os 0 st) :=
  exMap (fun fu h => @Eq.mp _ _ (Eq.trans (L.treepatch_Apply_h7_L1_eq (gR L.T0 (vs.getD 3 .any)) (gI (vs.getD 4 .any)) (gR L.T0 ((oC (st.getD 0 .dead)).getD 0 .any)) (gR (.pair .str (.slice .str)) ((oC (st.getD 1 .dead)).getD 0 .any)) (cI st 3 0) (cI st 3 1) (cI st 4 0) (cI st 4 1) (cI st 5 0) (cI st 5 1) K fu (gI (vs.getD 5 .any)) (oX (.pair .str (.slice .str)) (st.getD 8 .dead))) (by kernel_rfl)) h) (L.treepatch_Apply_h7_L1.out h)
theorem L.treepatch_Apply_h7_L1_ok : AnnOk Tryd.prog (CC Tryd.prog L.Γ_treepatch_Apply_h7 L.Δ_treepatch_Apply_h7) (drawD Tryd.prog L.Γ_treepatch_Apply_h7 L.Δ_treepatch_Apply_h7) 0 (.lift L.treepatch_Apply_h7_L1_d 47 L.treepatch_Apply_h7_L1_F) (.loop (sub [true, true, true, true, false, true, false, false] (codeOf Tryd.f11))) :=
  lift_ok (an := .leaf) (ss := L.treepatch_Apply_h7_L1_ss) (os := L.treepatch_Apply_h7_L1_os) (G := L.treepatch_Apply_h7_L1_G) rfl (Nat.le_of_ble_eq_true rfl) (annOk_leaf _) (L.treepatch_Apply_h7_L1_imp)
def L.treepatch_Apply_h7_B (p : (List (Int × (ByteArray × (ByteArray × ((List ByteArray) × L.T6)))))) (t : (List (ByteArray × (List ByteArray)))) (K : (List (ByteArray × (List ByteArray))) → Int → Int → Prop) : Prop :=
  L.treepatch_ValidatePatch p (fun rCode rIndex => (bif (!((rCode == 0) && ((rIndex == 0) && true))) then (K ([] : List (ByteArray × (List ByteArray))) rCode rIndex) ∧ K ([] : List (ByteArray × (List ByteArray))) rCode rIndex else L.treepatch_Second t (-2) (fun rCode1 rIndex1 => (bif (!((rCode1 == 0) && ((rIndex1 == 0) && true))) then (K ([] : List (ByteArray × (List ByteArray))) rCode1 rIndex1) ∧ K ([] : List (ByteArray × (List ByteArray))) rCode1 rIndex1 else L.treepatch_CopyTree_h2 t (fun r => L.treepatch_Apply_h7_L1 p (p.length : Int) 0 r (fun m => K m 0 0) (fun m1 r1 => K ([] : List (ByteArray × (List ByteArray))) m1 r1))))))
structure L.treepatch_Apply_h7 (p : (List (Int × (ByteArray × (ByteArray × ((List ByteArray) × L.T6)))))) (t : (List (ByteArray × (List ByteArray)))) (K : (List (ByteArray × (List ByteArray))) → Int → Int → Prop) : Prop where
  out : L.treepatch_Apply_h7_B p t K
def L.treepatch_Apply_h7_ss : List Sh := [.agg [.ro L.T0], .agg [.ro (.pair .str (.slice .str))]]
def L.treepatch_Apply_h7_os : List OSh := []
def L.treepatch_Apply_h7_G (vs : List V) (st : List Ob) (K : V → List Ob → Prop) : Prop := L.treepatch_Apply_h7 (gR L.T0 ((gC (vs.getD 0 .any)).getD 0 .any)) (gR (.pair .str (.slice .str)) ((gC (vs.getD 1 .any)).getD 0 .any)) (fun r0 r1 r2 => K (.tup [.agg [.ro (.pair .str (.slice .str)) r0], .agg [.xi r1, .xi r2]]) [])
def L.treepatch_Apply_h7_S : SemO := fun args st K => argO L.treepatch_Apply_h7_ss L.treepatch_Apply_h7_os args st fun a s => L.treepatch_Apply_h7_G a s K
theorem L.treepatch_Apply_h7_eq (p : (List (Int × (ByteArray × (ByteArray × ((List ByteArray) × L.T6)))))) (t : (List (ByteArray × (List ByteArray)))) (K : V → List Ob → Prop) : runH Tryd.prog L.Γ_treepatch_Apply_h7 L.Δ_treepatch_Apply_h7 (.node .leaf (.node .leaf (.node .leaf (.node .leaf (.node (.node .leaf (.lift L.treepatch_Apply_h7_L1_d 47 L.treepatch_Apply_h7_L1_F)) .leaf))))) (.tup [(.agg [(.ro (.pair .str (.slice .str)))]), .any]) [] Tryd.f11 false 0 [.agg [.ro L.T0 p], .agg [.ro (.pair .str (.slice .str)) t]] [] K = L.treepatch_Apply_h7_B p t (fun r0 r1 r2 => K (.tup [.agg [.ro (.pair .str (.slice .str)) r0], .agg [.xi r1, .xi r2]]) []) := by
  kernel_rfl
theorem L.treepatch_Apply_h7_imp (vs : List V) (st : List Ob) (K : V → List Ob → Prop) : Imp (L.treepatch_Apply_h7_G vs st K) (runH Tryd.prog L.Γ_treepatch_Apply_h7 L.Δ_treepatch_Apply_h7 (.node .leaf (.node .leaf (.node .leaf (.node .leaf (.node (.node .leaf (.lift L.treepatch_Apply_h7_L1_d 47 L.treepatch_Apply_h7_L1_F)) .leaf))))) (.tup [(.agg [(.ro (.pair .str (.slice .str)))]), .any]) [] Tryd.f11 false 0 (mkL L.treepatch_Apply_h7_ss 0 vs) (mkOs L.treepatch_Apply_h7_os 0 st) K) :=
  Imp.of (Eq.trans (b := runH Tryd.prog L.Γ_treepatch_Apply_h7 L.Δ_treepatch_Apply_h7 (.node .leaf (.node .leaf (.node .leaf (.node .leaf (.node (.node .leaf (.lift L.treepatch_Apply_h7_L1_d 47 L.treepatch_Apply_h7_L1_F)) .leaf))))) (.tup [(.agg [(.ro (.pair .str (.slice .str)))]), .any]) [] Tryd.f11 false 0 [.agg [.ro L.T0 (gR L.T0 ((gC (vs.getD 0 .any)).getD 0 .any))], .agg [.ro (.pair .str (.slice .str)) (gR (.pair .str (.slice .str)) ((gC (vs.getD 1 .any)).getD 0 .any))]] [] K) (by kernel_rfl) (L.treepatch_Apply_h7_eq (gR L.T0 ((gC (vs.getD 0 .any)).getD 0 .any)) (gR (.pair .str (.slice .str)) ((gC (vs.getD 1 .any)).getD 0 .any)) K)) fun h => (L.treepatch_Apply_h7.out h)
theorem L.treepatch_Apply_h7_ok : SoundO Tryd.prog 11 L.treepatch_Apply_h7_S :=
  fnO_ok (sem := runH Tryd.prog L.Γ_treepatch_Apply_h7 L.Δ_treepatch_Apply_h7 (.node .leaf (.node .leaf (.node .leaf (.node .leaf (.node (.node .leaf (.lift L.treepatch_Apply_h7_L1_d 47 L.treepatch_Apply_h7_L1_F)) .leaf))))) (.tup [(.agg [(.ro (.pair .str (.slice .str)))]), .any]) [] Tryd.f11 false 0) (ss := L.treepatch_Apply_h7_ss) (os := L.treepatch_Apply_h7_os) (G := L.treepatch_Apply_h7_G) (runH_ok L.Γ_treepatch_Apply_h7_ok L.Δ_treepatch_Apply_h7_ok Tryd.func11 (ann := (.node .leaf (.node .leaf (.node .leaf (.node .leaf (.node (.node .leaf (.lift L.treepatch_Apply_h7_L1_d 47 L.treepatch_Apply_h7_L1_F)) .leaf)))))) rfl ⟨(annOk_leaf _), ⟨(annOk_leaf _), ⟨(annOk_leaf _), ⟨(annOk_leaf _), ⟨⟨(annOk_leaf _), L.treepatch_Apply_h7_L1_ok⟩, (annOk_leaf _)⟩⟩⟩⟩⟩) L.treepatch_Apply_h7_imp
/-- changeforge/changeforgeequal.Strings -/
def L.Γ_equal_Strings : Ctx := L.Γ_treepatch_Apply_h7
theorem L.Γ_equal_Strings_ok : SoundG Tryd.prog L.Γ_equal_Strings := L.Γ_treepatch_Apply_h7_ok
def L.Δ_equal_Strings : CtxO := ctxE L.Δ_treepatch_Apply_h7 11 [.agg [.ro L.T0], .agg [.ro (.pair .str (.slice .str))]] L.treepatch_Apply_h7_ss L.treepatch_Apply_h7_os L.treepatch_Apply_h7_G
theorem L.Δ_equal_Strings_ok : SoundGO Tryd.prog L.Δ_equal_Strings := ctxE_ok L.Δ_treepatch_Apply_h7_ok L.treepatch_Apply_h7_ok
def L.equal_Strings_L1_b (a1 : (List ByteArray)) (b1 : (List ByteArray)) (i_ : Int) (self : Int → Prop) (Kx0 : Prop) (Kr : Bool → Prop) : Prop :=
  (bif (decide (i_ < (a1.length : Int))) then (inB i_ a1.length) ∧ (inB i_ b1.length) ∧ (bif (!((a1.getD i_.toNat ByteArray.empty).toList == (b1.getD i_.toNat ByteArray.empty).toList)) then Kr false else self (i64 (i_ + 1))) else Kx0)
def L.equal_Strings_L1_R (a1 : (List ByteArray)) (b1 : (List ByteArray)) : Nat → Int → (Prop) → (Bool → Prop) → Prop
  | 0, _, _, _ => False
  | fu + 1, i_, Kx0, Kr => L.equal_Strings_L1_b a1 b1 i_ (fun i_ => L.equal_Strings_L1_R a1 b1 fu i_ Kx0 Kr) Kx0 Kr
structure L.equal_Strings_L1 (a1 : (List ByteArray)) (b1 : (List ByteArray)) (i_ : Int) (Kx0 : Prop) (Kr : Bool → Prop) : Prop where
  out : ∃ fu, L.equal_Strings_L1_R a1 b1 fu i_ Kx0 Kr
def L.equal_Strings_L1_d : LoopD := { base := 0, vecs := [], flds := [], keep := [0, 1, 5], out := [], rets := [4], rv := [], rbase := 0 }
def L.equal_Strings_L1_ss : List Sh := [.ro .str, .ro .str, .int .i64]
def L.equal_Strings_L1_os : List OSh := []
def L.equal_Strings_L1_G (vs : List V) (st : List Ob) (K : Ex → St) : Prop := L.equal_Strings_L1 (gR .str (vs.getD 0 .any)) (gR .str (vs.getD 1 .any)) (gI (vs.getD 2 .any)) (K (.exit 0) (bld [] [] 0 26) []) (fun q0_ => K .ret (bld [4] [.x (.bool q0_)] 0 26) [])
def L.equal_Strings_L1_F (vs : List V) (st : List Ob) (K : Ex → St) : Prop := fitF L.equal_Strings_L1_ss L.equal_Strings_L1_os vs st (L.equal_Strings_L1_G vs st K)
theorem L.equal_Strings_L1_eq (a1 : (List ByteArray)) (b1 : (List ByteArray)) (K : Ex → St) : ∀ (fu : Nat) (i_ : Int), L.equal_Strings_L1_R a1 b1 fu i_ (K (.exit 0) (bld [] [] 0 26) []) (fun q0_ => K .ret (bld [4] [.x (.bool q0_)] 0 26) []) = iterL (stepL (exec Tryd.prog (CC Tryd.prog L.Γ_equal_Strings L.Δ_equal_Strings) (drawD Tryd.prog L.Γ_equal_Strings L.Δ_equal_Strings) .leaf (sub [true, true, false, true, false, false] (codeOf Tryd.f9))) 0 L.equal_Strings_L1_d K) fu (bld L.equal_Strings_L1_d.keep [.ro .str a1, .ro .str b1, .xi i_] 0 26) [] := by
  intro fu
  induction fu with
  | zero => intros; rfl
  | succ fu ih =>
    intro i_
    have e : (fun i_ => L.equal_Strings_L1_R a1 b1 fu i_ (K (.exit 0) (bld [] [] 0 26) []) (fun q0_ => K .ret (bld [4] [.x (.bool q0_)] 0 26) [])) = fun i_ => iterL (stepL (exec Tryd.prog (CC Tryd.prog L.Γ_equal_Strings L.Δ_equal_Strings) (drawD Tryd.prog L.Γ_equal_Strings L.Δ_equal_Strings) .leaf (sub [true, true, false, true, false, false] (codeOf Tryd.f9))) 0 L.equal_Strings_L1_d K) fu (bld L.equal_Strings_L1_d.keep [.ro .str a1, .ro .str b1, .xi i_] 0 26) [] := by
      funext i_; exact ih i_
    show L.equal_Strings_L1_b a1 b1 i_ (fun i_ => L.equal_Strings_L1_R a1 b1 fu i_ (K (.exit 0) (bld [] [] 0 26) []) (fun q0_ => K .ret (bld [4] [.x (.bool q0_)] 0 26) [])) (K (.exit 0) (bld [] [] 0 26) []) (fun q0_ => K .ret (bld [4] [.x (.bool q0_)] 0 26) []) = _
    rw [e]
    kernel_rfl
theorem L.equal_Strings_L1_imp (vs : List V) (st : List Ob) (K : Ex → St) (h : L.equal_Strings_L1_G vs st K) : ∃ fu, iterL (stepL (exec Tryd.prog (CC Tryd.prog L.Γ_equal_Strings L.Δ_equal_Strings) (drawD Tryd.prog L.Γ_equal_Strings L.Δ_equal_Strings) .leaf (sub [true, true, false, true, false, false] (codeOf Tryd.f9))) 0 L.equal_Strings_L1_d K) fu (bld L.equal_Strings_L1_d.keep (mkL L.equal_Strings_L1_ss 0 vs) 0 26) (mkOs L.equal_Strings_L1_os 0 st) :=
  exMap (fun fu h => @Eq.mp _ _ (Eq.trans (L.equal_Strings_L1_eq (gR .str (vs.getD 0 .any)) (gR .str (vs.getD 1 .any)) K fu (gI (vs.getD 2 .any))) (by kernel_rfl)) h) (L.equal_Strings_L1.out h)
theorem L.equal_Strings_L1_ok : AnnOk Tryd.prog (CC Tryd.prog L.Γ_equal_Strings L.Δ_equal_Strings) (drawD Tryd.prog L.Γ_equal_Strings L.Δ_equal_Strings) 0 (.lift L.equal_Strings_L1_d 26 L.equal_Strings_L1_F) (.loop (sub [true, true, false, true, false, false] (codeOf Tryd.f9))) :=
  lift_ok (an := .leaf) (ss := L.equal_Strings_L1_ss) (os := L.equal_Strings_L1_os) (G := L.equal_Strings_L1_G) rfl (Nat.le_of_ble_eq_true rfl) (annOk_leaf _) (L.equal_Strings_L1_imp)
def L.equal_Strings_B (a : (List ByteArray)) (b : (List ByteArray)) (K : Bool → Prop) : Prop :=
  (bif ((a.length : Int) != (b.length : Int)) then K false else L.equal_Strings_L1 a b 0 (K true) (fun r => K r))
structure L.equal_Strings (a : (List ByteArray)) (b : (List ByteArray)) (K : Bool → Prop) : Prop where
  out : L.equal_Strings_B a b K
def L.equal_Strings_ss : List Sh := [.ro .str, .ro .str]
def L.equal_Strings_G (vs : List V) (K : V → List Ob → Prop) : Prop := L.equal_Strings (gR .str (vs.getD 0 .any)) (gR .str (vs.getD 1 .any)) (fun r0 => K (.x (.bool r0)) [])
def L.equal_Strings_S : SemF := fun args K => argF L.equal_Strings_ss args fun a => L.equal_Strings_G a K
theorem L.equal_Strings_eq (a : (List ByteArray)) (b : (List ByteArray)) (K : V → List Ob → Prop) : run Tryd.prog L.Γ_equal_Strings L.Δ_equal_Strings (.node .leaf (.node .leaf (.node (.node .leaf (.lift L.equal_Strings_L1_d 26 L.equal_Strings_L1_F)) .leaf))) .any Tryd.f9 [.ro .str a, .ro .str b] K = L.equal_Strings_B a b (fun r0 => K (.x (.bool r0)) []) := by
  kernel_rfl
theorem L.equal_Strings_imp (vs : List V) (K : V → List Ob → Prop) : Imp (L.equal_Strings_G vs K) (run Tryd.prog L.Γ_equal_Strings L.Δ_equal_Strings (.node .leaf (.node .leaf (.node (.node .leaf (.lift L.equal_Strings_L1_d 26 L.equal_Strings_L1_F)) .leaf))) .any Tryd.f9 (mkL L.equal_Strings_ss 0 vs) K) :=
  Imp.of (Eq.trans (b := run Tryd.prog L.Γ_equal_Strings L.Δ_equal_Strings (.node .leaf (.node .leaf (.node (.node .leaf (.lift L.equal_Strings_L1_d 26 L.equal_Strings_L1_F)) .leaf))) .any Tryd.f9 [.ro .str (gR .str (vs.getD 0 .any)), .ro .str (gR .str (vs.getD 1 .any))] K) (by kernel_rfl) (L.equal_Strings_eq (gR .str (vs.getD 0 .any)) (gR .str (vs.getD 1 .any)) K)) fun h => (L.equal_Strings.out h)
theorem L.equal_Strings_ok : SoundFn Tryd.prog 9 L.equal_Strings_S :=
  fn_ok (sem := run Tryd.prog L.Γ_equal_Strings L.Δ_equal_Strings (.node .leaf (.node .leaf (.node (.node .leaf (.lift L.equal_Strings_L1_d 26 L.equal_Strings_L1_F)) .leaf))) .any Tryd.f9) (ss := L.equal_Strings_ss) (G := L.equal_Strings_G) (run_ok L.Γ_equal_Strings_ok L.Δ_equal_Strings_ok Tryd.func9 (ann := (.node .leaf (.node .leaf (.node (.node .leaf (.lift L.equal_Strings_L1_d 26 L.equal_Strings_L1_F)) .leaf)))) ⟨(annOk_leaf _), ⟨(annOk_leaf _), ⟨⟨(annOk_leaf _), L.equal_Strings_L1_ok⟩, (annOk_leaf _)⟩⟩⟩) L.equal_Strings_imp
/-- changeforge/changeforgeequal.Tree -/
def L.Γ_equal_Tree : Ctx := ctxC L.Γ_equal_Strings 9 L.equal_Strings_S
theorem L.Γ_equal_Tree_ok : SoundG Tryd.prog L.Γ_equal_Tree := ctxC_ok L.Γ_equal_Strings_ok L.equal_Strings_ok
def L.Δ_equal_Tree : CtxO := L.Δ_equal_Strings
theorem L.Δ_equal_Tree_ok : SoundGO Tryd.prog L.Δ_equal_Tree := L.Δ_equal_Strings_ok
def L.equal_Tree_L1_b (a : (List (ByteArray × (List ByteArray)))) (b : (List (ByteArray × (List ByteArray)))) (i_ : Int) (self : Int → Prop) (Kx0 : Prop) (Kr : Bool → Prop) : Prop :=
  (bif (decide (i_ < (a.length : Int))) then (inB i_ a.length) ∧ (inB i_ b.length) ∧ ((((!(((a.getD i_.toNat (ByteArray.empty, [])).1).toList == ((b.getD i_.toNat (ByteArray.empty, [])).1).toList)) == false) = true → inB i_ a.length)) ∧ ((((!(((a.getD i_.toNat (ByteArray.empty, [])).1).toList == ((b.getD i_.toNat (ByteArray.empty, [])).1).toList)) == false) = true → inB i_ b.length)) ∧ (bif okAll [((!(((a.getD i_.toNat (ByteArray.empty, [])).1).toList == ((b.getD i_.toNat (ByteArray.empty, [])).1).toList)), false)] then L.equal_Strings ((a.getD i_.toNat (ByteArray.empty, [])).2) ((b.getD i_.toNat (ByteArray.empty, [])).2) (fun r => (bif (!r) then Kr false else self (i64 (i_ + 1)))) else Kr false) else Kx0)
def L.equal_Tree_L1_R (a : (List (ByteArray × (List ByteArray)))) (b : (List (ByteArray × (List ByteArray)))) : Nat → Int → (Prop) → (Bool → Prop) → Prop
  | 0, _, _, _ => False
  | fu + 1, i_, Kx0, Kr => L.equal_Tree_L1_b a b i_ (fun i_ => L.equal_Tree_L1_R a b fu i_ Kx0 Kr) Kx0 Kr
structure L.equal_Tree_L1 (a : (List (ByteArray × (List ByteArray)))) (b : (List (ByteArray × (List ByteArray)))) (i_ : Int) (Kx0 : Prop) (Kr : Bool → Prop) : Prop where
  out : ∃ fu, L.equal_Tree_L1_R a b fu i_ Kx0 Kr
def L.equal_Tree_L1_d : LoopD := { base := 2, vecs := [], flds := [], keep := [2, 3, 5], out := [], rets := [4], rv := [], rbase := 0 }
def L.equal_Tree_L1_ss : List Sh := [.cl 0 0, .cl 1 0, .int .i64]
def L.equal_Tree_L1_os : List OSh := [.cells [.ro (.pair .str (.slice .str))], .cells [.ro (.pair .str (.slice .str))]]
def L.equal_Tree_L1_G (vs : List V) (st : List Ob) (K : Ex → St) : Prop := L.equal_Tree_L1 (gR (.pair .str (.slice .str)) ((oC (st.getD 0 .dead)).getD 0 .any)) (gR (.pair .str (.slice .str)) ((oC (st.getD 1 .dead)).getD 0 .any)) (gI (vs.getD 2 .any)) (K (.exit 0) (bld [] [] 0 49) [.cells [.ro (.pair .str (.slice .str)) (gR (.pair .str (.slice .str)) ((oC (st.getD 0 .dead)).getD 0 .any))], .cells [.ro (.pair .str (.slice .str)) (gR (.pair .str (.slice .str)) ((oC (st.getD 1 .dead)).getD 0 .any))]]) (fun q0_ => K .ret (bld [4] [.x (.bool q0_)] 0 49) [])
def L.equal_Tree_L1_F (vs : List V) (st : List Ob) (K : Ex → St) : Prop := fitF L.equal_Tree_L1_ss L.equal_Tree_L1_os vs st (L.equal_Tree_L1_G vs st K)
theorem L.equal_Tree_L1_eq (a : (List (ByteArray × (List ByteArray)))) (b : (List (ByteArray × (List ByteArray)))) (K : Ex → St) : ∀ (fu : Nat) (i_ : Int), L.equal_Tree_L1_R a b fu i_ (K (.exit 0) (bld [] [] 0 49) [.cells [.ro (.pair .str (.slice .str)) a], .cells [.ro (.pair .str (.slice .str)) b]]) (fun q0_ => K .ret (bld [4] [.x (.bool q0_)] 0 49) []) = iterL (stepL (exec Tryd.prog (CC Tryd.prog L.Γ_equal_Tree L.Δ_equal_Tree) (drawD Tryd.prog L.Γ_equal_Tree L.Δ_equal_Tree) .leaf (sub [true, true, false, true, false, false] (codeOf Tryd.f13))) 2 L.equal_Tree_L1_d K) fu (bld L.equal_Tree_L1_d.keep [.cl 0 0, .cl 1 0, .xi i_] 0 49) [.cells [.ro (.pair .str (.slice .str)) a], .cells [.ro (.pair .str (.slice .str)) b]] := by
  intro fu
  induction fu with
  | zero => intros; rfl
  | succ fu ih =>
    intro i_
    have e : (fun i_ => L.equal_Tree_L1_R a b fu i_ (K (.exit 0) (bld [] [] 0 49) [.cells [.ro (.pair .str (.slice .str)) a], .cells [.ro (.pair .str (.slice .str)) b]]) (fun q0_ => K .ret (bld [4] [.x (.bool q0_)] 0 49) [])) = fun i_ => iterL (stepL (exec Tryd.prog (CC Tryd.prog L.Γ_equal_Tree L.Δ_equal_Tree) (drawD Tryd.prog L.Γ_equal_Tree L.Δ_equal_Tree) .leaf (sub [true, true, false, true, false, false] (codeOf Tryd.f13))) 2 L.equal_Tree_L1_d K) fu (bld L.equal_Tree_L1_d.keep [.cl 0 0, .cl 1 0, .xi i_] 0 49) [.cells [.ro (.pair .str (.slice .str)) a], .cells [.ro (.pair .str (.slice .str)) b]] := by
      funext i_; exact ih i_
    show L.equal_Tree_L1_b a b i_ (fun i_ => L.equal_Tree_L1_R a b fu i_ (K (.exit 0) (bld [] [] 0 49) [.cells [.ro (.pair .str (.slice .str)) a], .cells [.ro (.pair .str (.slice .str)) b]]) (fun q0_ => K .ret (bld [4] [.x (.bool q0_)] 0 49) [])) (K (.exit 0) (bld [] [] 0 49) [.cells [.ro (.pair .str (.slice .str)) a], .cells [.ro (.pair .str (.slice .str)) b]]) (fun q0_ => K .ret (bld [4] [.x (.bool q0_)] 0 49) []) = _
    rw [e]
    kernel_rfl
theorem L.equal_Tree_L1_imp (vs : List V) (st : List Ob) (K : Ex → St) (h : L.equal_Tree_L1_G vs st K) : ∃ fu, iterL (stepL (exec Tryd.prog (CC Tryd.prog L.Γ_equal_Tree L.Δ_equal_Tree) (drawD Tryd.prog L.Γ_equal_Tree L.Δ_equal_Tree) .leaf (sub [true, true, false, true, false, false] (codeOf Tryd.f13))) 2 L.equal_Tree_L1_d K) fu (bld L.equal_Tree_L1_d.keep (mkL L.equal_Tree_L1_ss 0 vs) 0 49) (mkOs L.equal_Tree_L1_os 0 st) :=
  exMap (fun fu h => @Eq.mp _ _ (Eq.trans (L.equal_Tree_L1_eq (gR (.pair .str (.slice .str)) ((oC (st.getD 0 .dead)).getD 0 .any)) (gR (.pair .str (.slice .str)) ((oC (st.getD 1 .dead)).getD 0 .any)) K fu (gI (vs.getD 2 .any))) (by kernel_rfl)) h) (L.equal_Tree_L1.out h)
theorem L.equal_Tree_L1_ok : AnnOk Tryd.prog (CC Tryd.prog L.Γ_equal_Tree L.Δ_equal_Tree) (drawD Tryd.prog L.Γ_equal_Tree L.Δ_equal_Tree) 0 (.lift L.equal_Tree_L1_d 49 L.equal_Tree_L1_F) (.loop (sub [true, true, false, true, false, false] (codeOf Tryd.f13))) :=
  lift_ok (an := .leaf) (ss := L.equal_Tree_L1_ss) (os := L.equal_Tree_L1_os) (G := L.equal_Tree_L1_G) rfl (Nat.le_of_ble_eq_true rfl) (annOk_leaf _) (L.equal_Tree_L1_imp)
def L.equal_Tree_B (a_Files : (List (ByteArray × (List ByteArray)))) (b_Files : (List (ByteArray × (List ByteArray)))) (K : Bool → Prop) : Prop :=
  (bif ((a_Files.length : Int) != (b_Files.length : Int)) then K false else L.equal_Tree_L1 a_Files b_Files 0 (K true) (fun r => K r))
structure L.equal_Tree (a_Files : (List (ByteArray × (List ByteArray)))) (b_Files : (List (ByteArray × (List ByteArray)))) (K : Bool → Prop) : Prop where
  out : L.equal_Tree_B a_Files b_Files K
def L.equal_Tree_ss : List Sh := [.agg [.ro (.pair .str (.slice .str))], .agg [.ro (.pair .str (.slice .str))]]
def L.equal_Tree_G (vs : List V) (K : V → List Ob → Prop) : Prop := L.equal_Tree (gR (.pair .str (.slice .str)) ((gC (vs.getD 0 .any)).getD 0 .any)) (gR (.pair .str (.slice .str)) ((gC (vs.getD 1 .any)).getD 0 .any)) (fun r0 => K (.x (.bool r0)) [])
def L.equal_Tree_S : SemF := fun args K => argF L.equal_Tree_ss args fun a => L.equal_Tree_G a K
theorem L.equal_Tree_eq (a_Files : (List (ByteArray × (List ByteArray)))) (b_Files : (List (ByteArray × (List ByteArray)))) (K : V → List Ob → Prop) : run Tryd.prog L.Γ_equal_Tree L.Δ_equal_Tree (.node .leaf (.node .leaf (.node (.node .leaf (.lift L.equal_Tree_L1_d 49 L.equal_Tree_L1_F)) .leaf))) .any Tryd.f13 [.agg [.ro (.pair .str (.slice .str)) a_Files], .agg [.ro (.pair .str (.slice .str)) b_Files]] K = L.equal_Tree_B a_Files b_Files (fun r0 => K (.x (.bool r0)) []) := by
  kernel_rfl
theorem L.equal_Tree_imp (vs : List V) (K : V → List Ob → Prop) : Imp (L.equal_Tree_G vs K) (run Tryd.prog L.Γ_equal_Tree L.Δ_equal_Tree (.node .leaf (.node .leaf (.node (.node .leaf (.lift L.equal_Tree_L1_d 49 L.equal_Tree_L1_F)) .leaf))) .any Tryd.f13 (mkL L.equal_Tree_ss 0 vs) K) :=
  Imp.of (Eq.trans (b := run Tryd.prog L.Γ_equal_Tree L.Δ_equal_Tree (.node .leaf (.node .leaf (.node (.node .leaf (.lift L.equal_Tree_L1_d 49 L.equal_Tree_L1_F)) .leaf))) .any Tryd.f13 [.agg [.ro (.pair .str (.slice .str)) (gR (.pair .str (.slice .str)) ((gC (vs.getD 0 .any)).getD 0 .any))], .agg [.ro (.pair .str (.slice .str)) (gR (.pair .str (.slice .str)) ((gC (vs.getD 1 .any)).getD 0 .any))]] K) (by kernel_rfl) (L.equal_Tree_eq (gR (.pair .str (.slice .str)) ((gC (vs.getD 0 .any)).getD 0 .any)) (gR (.pair .str (.slice .str)) ((gC (vs.getD 1 .any)).getD 0 .any)) K)) fun h => (L.equal_Tree.out h)
theorem L.equal_Tree_ok : SoundFn Tryd.prog 13 L.equal_Tree_S :=
  fn_ok (sem := run Tryd.prog L.Γ_equal_Tree L.Δ_equal_Tree (.node .leaf (.node .leaf (.node (.node .leaf (.lift L.equal_Tree_L1_d 49 L.equal_Tree_L1_F)) .leaf))) .any Tryd.f13) (ss := L.equal_Tree_ss) (G := L.equal_Tree_G) (run_ok L.Γ_equal_Tree_ok L.Δ_equal_Tree_ok Tryd.func13 (ann := (.node .leaf (.node .leaf (.node (.node .leaf (.lift L.equal_Tree_L1_d 49 L.equal_Tree_L1_F)) .leaf)))) ⟨(annOk_leaf _), ⟨(annOk_leaf _), ⟨⟨(annOk_leaf _), L.equal_Tree_L1_ok⟩, (annOk_leaf _)⟩⟩⟩) L.equal_Tree_imp
/-- changeforge/changeforgetop.h11Works -/
def L.Γ_top_h11Works : Ctx := ctxC L.Γ_equal_Tree 13 L.equal_Tree_S
theorem L.Γ_top_h11Works_ok : SoundG Tryd.prog L.Γ_top_h11Works := ctxC_ok L.Γ_equal_Tree_ok L.equal_Tree_ok
def L.Δ_top_h11Works : CtxO := L.Δ_equal_Tree
theorem L.Δ_top_h11Works_ok : SoundGO Tryd.prog L.Δ_top_h11Works := L.Δ_equal_Tree_ok
def L.top_h11Works_B (K : Bool → Prop) : Prop :=
  L.textpatch_Apply ([(0, (([L.str2] : List ByteArray), ([L.str3] : List ByteArray)))] : List (Int × ((List ByteArray) × (List ByteArray)))) ([L.str2] : List ByteArray) (fun r rCode rIndex => L.top_h11Edit_h1 L.str4 ([(0, (([L.str2] : List ByteArray), ([L.str3] : List ByteArray)))] : List (Int × ((List ByteArray) × (List ByteArray)))) (fun r1 => L.treepatch_Apply_h7 r1 ([(L.str4, ([L.str2] : List ByteArray))] : List (ByteArray × (List ByteArray))) (fun r2 r3 r4 => (bif (bif (rCode == 0) then (r3 == 0) else false) then L.equal_Strings r ([L.str3] : List ByteArray) (fun r5 => (bif (bif true then r5 else false) then L.equal_Tree r2 ([(L.str4, ([L.str3] : List ByteArray))] : List (ByteArray × (List ByteArray))) (fun r6 => K (bif true then r6 else false)) else K false)) else K false))))
structure L.top_h11Works (K : Bool → Prop) : Prop where
  out : L.top_h11Works_B K
def L.top_h11Works_ss : List Sh := []
def L.top_h11Works_G (vs : List V) (K : V → List Ob → Prop) : Prop := L.top_h11Works (fun r0 => K (.x (.bool r0)) [])
def L.top_h11Works_S : SemF := fun args K => argF L.top_h11Works_ss args fun a => L.top_h11Works_G a K
theorem L.top_h11Works_eq (K : V → List Ob → Prop) : run Tryd.prog L.Γ_top_h11Works L.Δ_top_h11Works .leaf .any Tryd.f5 [] K = L.top_h11Works_B (fun r0 => K (.x (.bool r0)) []) := by
  kernel_rfl
theorem L.top_h11Works_imp (vs : List V) (K : V → List Ob → Prop) : Imp (L.top_h11Works_G vs K) (run Tryd.prog L.Γ_top_h11Works L.Δ_top_h11Works .leaf .any Tryd.f5 (mkL L.top_h11Works_ss 0 vs) K) :=
  Imp.of (Eq.trans (b := run Tryd.prog L.Γ_top_h11Works L.Δ_top_h11Works .leaf .any Tryd.f5 [] K) (by kernel_rfl) (L.top_h11Works_eq K)) fun h => (L.top_h11Works.out h)
theorem L.top_h11Works_ok : SoundFn Tryd.prog 5 L.top_h11Works_S :=
  fn_ok (sem := run Tryd.prog L.Γ_top_h11Works L.Δ_top_h11Works .leaf .any Tryd.f5) (ss := L.top_h11Works_ss) (G := L.top_h11Works_G) (run_ok L.Γ_top_h11Works_ok L.Δ_top_h11Works_ok Tryd.func5 (ann := .leaf) (annOk_leaf _)) L.top_h11Works_imp
/-- changeforge/textpatch.Second -/
def L.Γ_textpatch_Second : Ctx := ctxC L.Γ_top_h11Works 5 L.top_h11Works_S
theorem L.Γ_textpatch_Second_ok : SoundG Tryd.prog L.Γ_textpatch_Second := ctxC_ok L.Γ_top_h11Works_ok L.top_h11Works_ok
def L.Δ_textpatch_Second : CtxO := L.Δ_top_h11Works
theorem L.Δ_textpatch_Second_ok : SoundGO Tryd.prog L.Δ_textpatch_Second := L.Δ_top_h11Works_ok
def L.textpatch_Second_B (p_Hunks : L.T6) (index : Int) (K : Int → Int → Prop) : Prop :=
  L.textpatch_Validate p_Hunks (fun rCode rIndex => (bif (!((rCode == 0) && ((rIndex == 0) && true))) then K rCode index else K 0 0))
structure L.textpatch_Second (p_Hunks : L.T6) (index : Int) (K : Int → Int → Prop) : Prop where
  out : L.textpatch_Second_B p_Hunks index K
def L.textpatch_Second_ss : List Sh := [.agg [.ro L.T5], .int .i64]
def L.textpatch_Second_G (vs : List V) (K : V → List Ob → Prop) : Prop := L.textpatch_Second (gR L.T5 ((gC (vs.getD 0 .any)).getD 0 .any)) (gI (vs.getD 1 .any)) (fun r0 r1 => K (.agg [.xi r0, .xi r1]) [])
def L.textpatch_Second_S : SemF := fun args K => argF L.textpatch_Second_ss args fun a => L.textpatch_Second_G a K
theorem L.textpatch_Second_eq (p_Hunks : L.T6) (index : Int) (K : V → List Ob → Prop) : run Tryd.prog L.Γ_textpatch_Second L.Δ_textpatch_Second .leaf .any Tryd.f36 [.agg [.ro L.T5 p_Hunks], .xi index] K = L.textpatch_Second_B p_Hunks index (fun r0 r1 => K (.agg [.xi r0, .xi r1]) []) := by
  kernel_rfl
theorem L.textpatch_Second_imp (vs : List V) (K : V → List Ob → Prop) : Imp (L.textpatch_Second_G vs K) (run Tryd.prog L.Γ_textpatch_Second L.Δ_textpatch_Second .leaf .any Tryd.f36 (mkL L.textpatch_Second_ss 0 vs) K) :=
  Imp.of (Eq.trans (b := run Tryd.prog L.Γ_textpatch_Second L.Δ_textpatch_Second .leaf .any Tryd.f36 [.agg [.ro L.T5 (gR L.T5 ((gC (vs.getD 0 .any)).getD 0 .any))], .xi (gI (vs.getD 1 .any))] K) (by kernel_rfl) (L.textpatch_Second_eq (gR L.T5 ((gC (vs.getD 0 .any)).getD 0 .any)) (gI (vs.getD 1 .any)) K)) fun h => (L.textpatch_Second.out h)
theorem L.textpatch_Second_ok : SoundFn Tryd.prog 36 L.textpatch_Second_S :=
  fn_ok (sem := run Tryd.prog L.Γ_textpatch_Second L.Δ_textpatch_Second .leaf .any Tryd.f36) (ss := L.textpatch_Second_ss) (G := L.textpatch_Second_G) (run_ok L.Γ_textpatch_Second_ok L.Δ_textpatch_Second_ok Tryd.func36 (ann := .leaf) (annOk_leaf _)) L.textpatch_Second_imp
/-- changeforge/stack.check -/
def L.Γ_stack_check : Ctx := ctxC L.Γ_textpatch_Second 36 L.textpatch_Second_S
theorem L.Γ_stack_check_ok : SoundG Tryd.prog L.Γ_stack_check := ctxC_ok L.Γ_textpatch_Second_ok L.textpatch_Second_ok
def L.Δ_stack_check : CtxO := L.Δ_textpatch_Second
theorem L.Δ_stack_check_ok : SoundGO Tryd.prog L.Δ_stack_check := L.Δ_textpatch_Second_ok
def L.stack_check_L1_b (v10 : (List L.T6)) (v11 : Int) (v12 : Int) (self : Int → Prop) (Kx0 : Prop) (Kr : Int → Int → Prop) : Prop :=
  (bif (decide (v12 < v11)) then (inB v12 v10.length) ∧ L.textpatch_Second (v10.getD v12.toNat []) v12 (fun rCode rIndex => (bif (!((rCode == 0) && ((rIndex == 0) && true))) then Kr rCode rIndex else self (i64 (v12 + 1)))) else Kx0)
def L.stack_check_L1_R (v10 : (List L.T6)) (v11 : Int) : Nat → Int → (Prop) → (Int → Int → Prop) → Prop
  | 0, _, _, _ => False
  | fu + 1, v12, Kx0, Kr => L.stack_check_L1_b v10 v11 v12 (fun v12 => L.stack_check_L1_R v10 v11 fu v12 Kx0 Kr) Kx0 Kr
structure L.stack_check_L1 (v10 : (List L.T6)) (v11 : Int) (v12 : Int) (Kx0 : Prop) (Kr : Int → Int → Prop) : Prop where
  out : ∃ fu, L.stack_check_L1_R v10 v11 fu v12 Kx0 Kr
def L.stack_check_L1_d : LoopD := { base := 1, vecs := [], flds := [], keep := [2, 10, 11, 12], out := [2], rets := [2], rv := [], rbase := 0 }
def L.stack_check_L1_ss : List Sh := [.cl 0 0, .ro L.T4, .int .i64, .int .i64]
def L.stack_check_L1_os : List OSh := [.cells [.int .i64, .int .i64]]
def L.stack_check_L1_G (vs : List V) (st : List Ob) (K : Ex → St) : Prop := L.stack_check_L1 (gR L.T4 (vs.getD 1 .any)) (gI (vs.getD 2 .any)) (gI (vs.getD 3 .any)) (K (.exit 0) (bld [2] [.cl 0 0] 0 26) [.cells [.xi (cI st 0 0), .xi (cI st 0 1)]]) (fun q0_ q1_ => K .ret (bld [2] [.cl 0 0] 0 26) [.cells [.xi q0_, .xi q1_]])
def L.stack_check_L1_F (vs : List V) (st : List Ob) (K : Ex → St) : Prop := fitF L.stack_check_L1_ss L.stack_check_L1_os vs st (L.stack_check_L1_G vs st K)
theorem L.stack_check_L1_eq (v10 : (List L.T6)) (v11 : Int) (m0 : Int) (m01 : Int) (K : Ex → St) : ∀ (fu : Nat) (v12 : Int), L.stack_check_L1_R v10 v11 fu v12 (K (.exit 0) (bld [2] [.cl 0 0] 0 26) [.cells [.xi m0, .xi m01]]) (fun q0_ q1_ => K .ret (bld [2] [.cl 0 0] 0 26) [.cells [.xi q0_, .xi q1_]]) = iterL (stepL (exec Tryd.prog (CC Tryd.prog L.Γ_stack_check L.Δ_stack_check) (drawD Tryd.prog L.Γ_stack_check L.Δ_stack_check) .leaf (sub [true, true, false, true, false, false] (codeOf Tryd.f15))) 1 L.stack_check_L1_d K) fu (bld L.stack_check_L1_d.keep [.cl 0 0, .ro L.T4 v10, .xi v11, .xi v12] 0 26) [.cells [.xi m0, .xi m01]] := by
  intro fu
  induction fu with
  | zero => intros; rfl
  | succ fu ih =>
    intro v12
    have e : (fun v12 => L.stack_check_L1_R v10 v11 fu v12 (K (.exit 0) (bld [2] [.cl 0 0] 0 26) [.cells [.xi m0, .xi m01]]) (fun q0_ q1_ => K .ret (bld [2] [.cl 0 0] 0 26) [.cells [.xi q0_, .xi q1_]])) = fun v12 => iterL (stepL (exec Tryd.prog (CC Tryd.prog L.Γ_stack_check L.Δ_stack_check) (drawD Tryd.prog L.Γ_stack_check L.Δ_stack_check) .leaf (sub [true, true, false, true, false, false] (codeOf Tryd.f15))) 1 L.stack_check_L1_d K) fu (bld L.stack_check_L1_d.keep [.cl 0 0, .ro L.T4 v10, .xi v11, .xi v12] 0 26) [.cells [.xi m0, .xi m01]] := by
      funext v12; exact ih v12
    show L.stack_check_L1_b v10 v11 v12 (fun v12 => L.stack_check_L1_R v10 v11 fu v12 (K (.exit 0) (bld [2] [.cl 0 0] 0 26) [.cells [.xi m0, .xi m01]]) (fun q0_ q1_ => K .ret (bld [2] [.cl 0 0] 0 26) [.cells [.xi q0_, .xi q1_]])) (K (.exit 0) (bld [2] [.cl 0 0] 0 26) [.cells [.xi m0, .xi m01]]) (fun q0_ q1_ => K .ret (bld [2] [.cl 0 0] 0 26) [.cells [.xi q0_, .xi q1_]]) = _
    rw [e]
    kernel_rfl
theorem L.stack_check_L1_imp (vs : List V) (st : List Ob) (K : Ex → St) (h : L.stack_check_L1_G vs st K) : ∃ fu, iterL (stepL (exec Tryd.prog (CC Tryd.prog L.Γ_stack_check L.Δ_stack_check) (drawD Tryd.prog L.Γ_stack_check L.Δ_stack_check) .leaf (sub [true, true, false, true, false, false] (codeOf Tryd.f15))) 1 L.stack_check_L1_d K) fu (bld L.stack_check_L1_d.keep (mkL L.stack_check_L1_ss 0 vs) 0 26) (mkOs L.stack_check_L1_os 0 st) :=
  exMap (fun fu h => @Eq.mp _ _ (Eq.trans (L.stack_check_L1_eq (gR L.T4 (vs.getD 1 .any)) (gI (vs.getD 2 .any)) (cI st 0 0) (cI st 0 1) K fu (gI (vs.getD 3 .any))) (by kernel_rfl)) h) (L.stack_check_L1.out h)
theorem L.stack_check_L1_ok : AnnOk Tryd.prog (CC Tryd.prog L.Γ_stack_check L.Δ_stack_check) (drawD Tryd.prog L.Γ_stack_check L.Δ_stack_check) 0 (.lift L.stack_check_L1_d 26 L.stack_check_L1_F) (.loop (sub [true, true, false, true, false, false] (codeOf Tryd.f15))) :=
  lift_ok (an := .leaf) (ss := L.stack_check_L1_ss) (os := L.stack_check_L1_os) (G := L.stack_check_L1_G) rfl (Nat.le_of_ble_eq_true rfl) (annOk_leaf _) (L.stack_check_L1_imp)
def L.stack_check_B (patches : (List L.T6)) (K : Int → Int → Prop) : Prop :=
  (bif (decide ((patches.length : Int) > 12)) then K 2 (-1) else L.stack_check_L1 patches (patches.length : Int) 0 (K 0 0) (fun m m1 => K m m1))
structure L.stack_check (patches : (List L.T6)) (K : Int → Int → Prop) : Prop where
  out : L.stack_check_B patches K
def L.stack_check_ss : List Sh := [.ro L.T4]
def L.stack_check_G (vs : List V) (K : V → List Ob → Prop) : Prop := L.stack_check (gR L.T4 (vs.getD 0 .any)) (fun r0 r1 => K (.agg [.xi r0, .xi r1]) [])
def L.stack_check_S : SemF := fun args K => argF L.stack_check_ss args fun a => L.stack_check_G a K
theorem L.stack_check_eq (patches : (List L.T6)) (K : V → List Ob → Prop) : run Tryd.prog L.Γ_stack_check L.Δ_stack_check (.node .leaf (.node .leaf (.node (.node .leaf (.lift L.stack_check_L1_d 26 L.stack_check_L1_F)) .leaf))) .any Tryd.f15 [.ro L.T4 patches] K = L.stack_check_B patches (fun r0 r1 => K (.agg [.xi r0, .xi r1]) []) := by
  kernel_rfl
theorem L.stack_check_imp (vs : List V) (K : V → List Ob → Prop) : Imp (L.stack_check_G vs K) (run Tryd.prog L.Γ_stack_check L.Δ_stack_check (.node .leaf (.node .leaf (.node (.node .leaf (.lift L.stack_check_L1_d 26 L.stack_check_L1_F)) .leaf))) .any Tryd.f15 (mkL L.stack_check_ss 0 vs) K) :=
  Imp.of (Eq.trans (b := run Tryd.prog L.Γ_stack_check L.Δ_stack_check (.node .leaf (.node .leaf (.node (.node .leaf (.lift L.stack_check_L1_d 26 L.stack_check_L1_F)) .leaf))) .any Tryd.f15 [.ro L.T4 (gR L.T4 (vs.getD 0 .any))] K) (by kernel_rfl) (L.stack_check_eq (gR L.T4 (vs.getD 0 .any)) K)) fun h => (L.stack_check.out h)
theorem L.stack_check_ok : SoundFn Tryd.prog 15 L.stack_check_S :=
  fn_ok (sem := run Tryd.prog L.Γ_stack_check L.Δ_stack_check (.node .leaf (.node .leaf (.node (.node .leaf (.lift L.stack_check_L1_d 26 L.stack_check_L1_F)) .leaf))) .any Tryd.f15) (ss := L.stack_check_ss) (G := L.stack_check_G) (run_ok L.Γ_stack_check_ok L.Δ_stack_check_ok Tryd.func15 (ann := (.node .leaf (.node .leaf (.node (.node .leaf (.lift L.stack_check_L1_d 26 L.stack_check_L1_F)) .leaf)))) ⟨(annOk_leaf _), ⟨(annOk_leaf _), ⟨⟨(annOk_leaf _), L.stack_check_L1_ok⟩, (annOk_leaf _)⟩⟩⟩) L.stack_check_imp
/-- changeforge/stack.Apply -/
def L.Γ_stack_Apply : Ctx := ctxC L.Γ_stack_check 15 L.stack_check_S
theorem L.Γ_stack_Apply_ok : SoundG Tryd.prog L.Γ_stack_Apply := ctxC_ok L.Γ_stack_check_ok L.stack_check_ok
def L.Δ_stack_Apply : CtxO := L.Δ_stack_check
theorem L.Δ_stack_Apply_ok : SoundGO Tryd.prog L.Δ_stack_Apply := L.Δ_stack_check_ok
def L.stack_Apply_L1_b (v27 : (List L.T6)) (v28 : Int) (v29 : Int) (out : (List ByteArray)) (self : Int → (List ByteArray) → Prop) (Kx0 : (List ByteArray) → Prop) (Kr : Int → Int → Prop) : Prop :=
  (bif (decide (v29 < v28)) then (inB v29 v27.length) ∧ L.textpatch_Apply (v27.getD v29.toNat []) out (fun r rCode2 rIndex2 => (bif (!((rCode2 == 0) && ((rIndex2 == 0) && true))) then Kr rCode2 v29 else self (i64 (v29 + 1)) r)) else Kx0 out)
def L.stack_Apply_L1_R (v27 : (List L.T6)) (v28 : Int) : Nat → Int → (List ByteArray) → ((List ByteArray) → Prop) → (Int → Int → Prop) → Prop
  | 0, _, _, _, _ => False
  | fu + 1, v29, out, Kx0, Kr => L.stack_Apply_L1_b v27 v28 v29 out (fun v29 out => L.stack_Apply_L1_R v27 v28 fu v29 out Kx0 Kr) Kx0 Kr
structure L.stack_Apply_L1 (v27 : (List L.T6)) (v28 : Int) (v29 : Int) (out : (List ByteArray)) (Kx0 : (List ByteArray) → Prop) (Kr : Int → Int → Prop) : Prop where
  out : ∃ fu, L.stack_Apply_L1_R v27 v28 fu v29 out Kx0 Kr
def L.stack_Apply_L1_d : LoopD := { base := 4, vecs := [(8, .sl .str)], flds := [], keep := [5, 8, 27, 28, 29], out := [5, 8], rets := [4, 5], rv := [], rbase := 0 }
def L.stack_Apply_L1_ss : List Sh := [.cl 0 0, .vec 4, .ro L.T4, .int .i64, .int .i64]
def L.stack_Apply_L1_os : List OSh := [.cells [.int .i64, .int .i64], .cells [.int .i64, .int .i64], .cells [.int .i64, .int .i64], .dead, .vec .str true]
def L.stack_Apply_L1_G (vs : List V) (st : List Ob) (K : Ex → St) : Prop := L.stack_Apply_L1 (gR L.T4 (vs.getD 2 .any)) (gI (vs.getD 3 .any)) (gI (vs.getD 4 .any)) (oX .str (st.getD 4 .dead)) (fun q0_ => K (.exit 0) (bld [5, 8] [.cl 0 0, .vec 4] 0 51) [.cells [.xi (cI st 0 0), .xi (cI st 0 1)], .cells [.xi (cI st 1 0), .xi (cI st 1 1)], .cells [.xi (cI st 2 0), .xi (cI st 2 1)], .dead, .vec .str 0 q0_]) (fun q0_ q1_ => K .ret (bld [4, 5] [.x (.slice none 0 0), .cl 0 0] 0 51) [.cells [.xi q0_, .xi q1_]])
def L.stack_Apply_L1_F (vs : List V) (st : List Ob) (K : Ex → St) : Prop := fitF L.stack_Apply_L1_ss L.stack_Apply_L1_os vs st (L.stack_Apply_L1_G vs st K)
theorem L.stack_Apply_L1_eq (v27 : (List L.T6)) (v28 : Int) (m0 : Int) (m01 : Int) (m1 : Int) (m11 : Int) (m2 : Int) (m21 : Int) (K : Ex → St) : ∀ (fu : Nat) (v29 : Int) (out : (List ByteArray)), L.stack_Apply_L1_R v27 v28 fu v29 out (fun q0_ => K (.exit 0) (bld [5, 8] [.cl 0 0, .vec 4] 0 51) [.cells [.xi m0, .xi m01], .cells [.xi m1, .xi m11], .cells [.xi m2, .xi m21], .dead, .vec .str 0 q0_]) (fun q0_ q1_ => K .ret (bld [4, 5] [.x (.slice none 0 0), .cl 0 0] 0 51) [.cells [.xi q0_, .xi q1_]]) = iterL (stepL (exec Tryd.prog (CC Tryd.prog L.Γ_stack_Apply L.Δ_stack_Apply) (drawD Tryd.prog L.Γ_stack_Apply L.Δ_stack_Apply) .leaf (sub [true, true, true, true, false, true, false, false] (codeOf Tryd.f6))) 4 L.stack_Apply_L1_d K) fu (bld L.stack_Apply_L1_d.keep [.cl 0 0, .vec 4, .ro L.T4 v27, .xi v28, .xi v29] 0 51) [.cells [.xi m0, .xi m01], .cells [.xi m1, .xi m11], .cells [.xi m2, .xi m21], .dead, .vec .str 0 out] := by
  intro fu
  induction fu with
  | zero => intros; rfl
  | succ fu ih =>
    intro v29 out
    have e : (fun v29 out => L.stack_Apply_L1_R v27 v28 fu v29 out (fun q0_ => K (.exit 0) (bld [5, 8] [.cl 0 0, .vec 4] 0 51) [.cells [.xi m0, .xi m01], .cells [.xi m1, .xi m11], .cells [.xi m2, .xi m21], .dead, .vec .str 0 q0_]) (fun q0_ q1_ => K .ret (bld [4, 5] [.x (.slice none 0 0), .cl 0 0] 0 51) [.cells [.xi q0_, .xi q1_]])) = fun v29 out => iterL (stepL (exec Tryd.prog (CC Tryd.prog L.Γ_stack_Apply L.Δ_stack_Apply) (drawD Tryd.prog L.Γ_stack_Apply L.Δ_stack_Apply) .leaf (sub [true, true, true, true, false, true, false, false] (codeOf Tryd.f6))) 4 L.stack_Apply_L1_d K) fu (bld L.stack_Apply_L1_d.keep [.cl 0 0, .vec 4, .ro L.T4 v27, .xi v28, .xi v29] 0 51) [.cells [.xi m0, .xi m01], .cells [.xi m1, .xi m11], .cells [.xi m2, .xi m21], .dead, .vec .str 0 out] := by
      funext v29 out; exact ih v29 out
    show L.stack_Apply_L1_b v27 v28 v29 out (fun v29 out => L.stack_Apply_L1_R v27 v28 fu v29 out (fun q0_ => K (.exit 0) (bld [5, 8] [.cl 0 0, .vec 4] 0 51) [.cells [.xi m0, .xi m01], .cells [.xi m1, .xi m11], .cells [.xi m2, .xi m21], .dead, .vec .str 0 q0_]) (fun q0_ q1_ => K .ret (bld [4, 5] [.x (.slice none 0 0), .cl 0 0] 0 51) [.cells [.xi q0_, .xi q1_]])) (fun q0_ => K (.exit 0) (bld [5, 8] [.cl 0 0, .vec 4] 0 51) [.cells [.xi m0, .xi m01], .cells [.xi m1, .xi m11], .cells [.xi m2, .xi m21], .dead, .vec .str 0 q0_]) (fun q0_ q1_ => K .ret (bld [4, 5] [.x (.slice none 0 0), .cl 0 0] 0 51) [.cells [.xi q0_, .xi q1_]]) = _
    rw [e]
    kernel_rfl
theorem L.stack_Apply_L1_imp (vs : List V) (st : List Ob) (K : Ex → St) (h : L.stack_Apply_L1_G vs st K) : ∃ fu, iterL (stepL (exec Tryd.prog (CC Tryd.prog L.Γ_stack_Apply L.Δ_stack_Apply) (drawD Tryd.prog L.Γ_stack_Apply L.Δ_stack_Apply) .leaf (sub [true, true, true, true, false, true, false, false] (codeOf Tryd.f6))) 4 L.stack_Apply_L1_d K) fu (bld L.stack_Apply_L1_d.keep (mkL L.stack_Apply_L1_ss 0 vs) 0 51) (mkOs L.stack_Apply_L1_os 0 st) :=
  exMap (fun fu h => @Eq.mp _ _ (Eq.trans (L.stack_Apply_L1_eq (gR L.T4 (vs.getD 2 .any)) (gI (vs.getD 3 .any)) (cI st 0 0) (cI st 0 1) (cI st 1 0) (cI st 1 1) (cI st 2 0) (cI st 2 1) K fu (gI (vs.getD 4 .any)) (oX .str (st.getD 4 .dead))) (by kernel_rfl)) h) (L.stack_Apply_L1.out h)
theorem L.stack_Apply_L1_ok : AnnOk Tryd.prog (CC Tryd.prog L.Γ_stack_Apply L.Δ_stack_Apply) (drawD Tryd.prog L.Γ_stack_Apply L.Δ_stack_Apply) 0 (.lift L.stack_Apply_L1_d 51 L.stack_Apply_L1_F) (.loop (sub [true, true, true, true, false, true, false, false] (codeOf Tryd.f6))) :=
  lift_ok (an := .leaf) (ss := L.stack_Apply_L1_ss) (os := L.stack_Apply_L1_os) (G := L.stack_Apply_L1_G) rfl (Nat.le_of_ble_eq_true rfl) (annOk_leaf _) (L.stack_Apply_L1_imp)
def L.stack_Apply_B (base : (List ByteArray)) (patches : (List L.T6)) (K : (List ByteArray) → Int → Int → Prop) : Prop :=
  L.stack_check patches (fun rCode rIndex => (bif (!((rCode == 0) && ((rIndex == 0) && true))) then K ([] : List ByteArray) rCode rIndex else L.lines_Second base (-2) (fun rCode1 rIndex1 => (bif (!((rCode1 == 0) && ((rIndex1 == 0) && true))) then K ([] : List ByteArray) rCode1 rIndex1 else (fits (([] : List ByteArray).length + base.length)) ∧ L.stack_Apply_L1 patches (patches.length : Int) 0 (([] : List ByteArray) ++ base) (fun out => K out 0 0) (fun m m1 => K ([] : List ByteArray) m m1)))))
structure L.stack_Apply (base : (List ByteArray)) (patches : (List L.T6)) (K : (List ByteArray) → Int → Int → Prop) : Prop where
  out : L.stack_Apply_B base patches K
def L.stack_Apply_ss : List Sh := [.ro .str, .ro L.T4]
def L.stack_Apply_G (vs : List V) (K : V → List Ob → Prop) : Prop := L.stack_Apply (gR .str (vs.getD 0 .any)) (gR L.T4 (vs.getD 1 .any)) (fun r0 r1 r2 => K (.tup [.vec 0, .agg [.xi r1, .xi r2]]) [.vec .str 0 r0])
def L.stack_Apply_S : SemF := fun args K => argF L.stack_Apply_ss args fun a => L.stack_Apply_G a K
theorem L.stack_Apply_eq (base : (List ByteArray)) (patches : (List L.T6)) (K : V → List Ob → Prop) : run Tryd.prog L.Γ_stack_Apply L.Δ_stack_Apply (.node .leaf (.node .leaf (.node .leaf (.node .leaf (.node (.node .leaf (.lift L.stack_Apply_L1_d 51 L.stack_Apply_L1_F)) .leaf))))) (.tup [.sl .str, .any]) Tryd.f6 [.ro .str base, .ro L.T4 patches] K = L.stack_Apply_B base patches (fun r0 r1 r2 => K (.tup [.vec 0, .agg [.xi r1, .xi r2]]) [.vec .str 0 r0]) := by
  kernel_rfl
theorem L.stack_Apply_imp (vs : List V) (K : V → List Ob → Prop) : Imp (L.stack_Apply_G vs K) (run Tryd.prog L.Γ_stack_Apply L.Δ_stack_Apply (.node .leaf (.node .leaf (.node .leaf (.node .leaf (.node (.node .leaf (.lift L.stack_Apply_L1_d 51 L.stack_Apply_L1_F)) .leaf))))) (.tup [.sl .str, .any]) Tryd.f6 (mkL L.stack_Apply_ss 0 vs) K) :=
  Imp.of (Eq.trans (b := run Tryd.prog L.Γ_stack_Apply L.Δ_stack_Apply (.node .leaf (.node .leaf (.node .leaf (.node .leaf (.node (.node .leaf (.lift L.stack_Apply_L1_d 51 L.stack_Apply_L1_F)) .leaf))))) (.tup [.sl .str, .any]) Tryd.f6 [.ro .str (gR .str (vs.getD 0 .any)), .ro L.T4 (gR L.T4 (vs.getD 1 .any))] K) (by kernel_rfl) (L.stack_Apply_eq (gR .str (vs.getD 0 .any)) (gR L.T4 (vs.getD 1 .any)) K)) fun h => (L.stack_Apply.out h)
theorem L.stack_Apply_ok : SoundFn Tryd.prog 6 L.stack_Apply_S :=
  fn_ok (sem := run Tryd.prog L.Γ_stack_Apply L.Δ_stack_Apply (.node .leaf (.node .leaf (.node .leaf (.node .leaf (.node (.node .leaf (.lift L.stack_Apply_L1_d 51 L.stack_Apply_L1_F)) .leaf))))) (.tup [.sl .str, .any]) Tryd.f6) (ss := L.stack_Apply_ss) (G := L.stack_Apply_G) (run_ok L.Γ_stack_Apply_ok L.Δ_stack_Apply_ok Tryd.func6 (ann := (.node .leaf (.node .leaf (.node .leaf (.node .leaf (.node (.node .leaf (.lift L.stack_Apply_L1_d 51 L.stack_Apply_L1_F)) .leaf)))))) ⟨(annOk_leaf _), ⟨(annOk_leaf _), ⟨(annOk_leaf _), ⟨(annOk_leaf _), ⟨⟨(annOk_leaf _), L.stack_Apply_L1_ok⟩, (annOk_leaf _)⟩⟩⟩⟩⟩) L.stack_Apply_imp
/-- changeforge/lines.Both -/
def L.Γ_lines_Both : Ctx := ctxC L.Γ_stack_Apply 6 L.stack_Apply_S
theorem L.Γ_lines_Both_ok : SoundG Tryd.prog L.Γ_lines_Both := ctxC_ok L.Γ_stack_Apply_ok L.stack_Apply_ok
def L.Δ_lines_Both : CtxO := L.Δ_stack_Apply
theorem L.Δ_lines_Both_ok : SoundGO Tryd.prog L.Δ_lines_Both := L.Δ_stack_Apply_ok
def L.lines_Both_B (a : (List ByteArray)) (b : (List ByteArray)) (K : Int → Int → Prop) : Prop :=
  L.lines_Validate a (fun rCode rIndex => (bif (!((rCode == 0) && ((rIndex == 0) && true))) then K rCode rIndex else L.lines_Second b (-2) (fun rCode1 rIndex1 => K rCode1 rIndex1)))
structure L.lines_Both (a : (List ByteArray)) (b : (List ByteArray)) (K : Int → Int → Prop) : Prop where
  out : L.lines_Both_B a b K
def L.lines_Both_ss : List Sh := [.ro .str, .ro .str]
def L.lines_Both_G (vs : List V) (K : V → List Ob → Prop) : Prop := L.lines_Both (gR .str (vs.getD 0 .any)) (gR .str (vs.getD 1 .any)) (fun r0 r1 => K (.agg [.xi r0, .xi r1]) [])
def L.lines_Both_S : SemF := fun args K => argF L.lines_Both_ss args fun a => L.lines_Both_G a K
theorem L.lines_Both_eq (a : (List ByteArray)) (b : (List ByteArray)) (K : V → List Ob → Prop) : run Tryd.prog L.Γ_lines_Both L.Δ_lines_Both .leaf .any Tryd.f20 [.ro .str a, .ro .str b] K = L.lines_Both_B a b (fun r0 r1 => K (.agg [.xi r0, .xi r1]) []) := by
  kernel_rfl
theorem L.lines_Both_imp (vs : List V) (K : V → List Ob → Prop) : Imp (L.lines_Both_G vs K) (run Tryd.prog L.Γ_lines_Both L.Δ_lines_Both .leaf .any Tryd.f20 (mkL L.lines_Both_ss 0 vs) K) :=
  Imp.of (Eq.trans (b := run Tryd.prog L.Γ_lines_Both L.Δ_lines_Both .leaf .any Tryd.f20 [.ro .str (gR .str (vs.getD 0 .any)), .ro .str (gR .str (vs.getD 1 .any))] K) (by kernel_rfl) (L.lines_Both_eq (gR .str (vs.getD 0 .any)) (gR .str (vs.getD 1 .any)) K)) fun h => (L.lines_Both.out h)
theorem L.lines_Both_ok : SoundFn Tryd.prog 20 L.lines_Both_S :=
  fn_ok (sem := run Tryd.prog L.Γ_lines_Both L.Δ_lines_Both .leaf .any Tryd.f20) (ss := L.lines_Both_ss) (G := L.lines_Both_G) (run_ok L.Γ_lines_Both_ok L.Δ_lines_Both_ok Tryd.func20 (ann := .leaf) (annOk_leaf _)) L.lines_Both_imp
/-- changeforge/diff.Align$1 -/
def L.Γ_diff_Align_1_v8 : Ctx := ctxC L.Γ_lines_Both 20 L.lines_Both_S
theorem L.Γ_diff_Align_1_v8_ok : SoundG Tryd.prog L.Γ_diff_Align_1_v8 := ctxC_ok L.Γ_lines_Both_ok L.lines_Both_ok
def L.Δ_diff_Align_1_v8 : CtxO := L.Δ_lines_Both
theorem L.Δ_diff_Align_1_v8_ok : SoundGO Tryd.prog L.Δ_diff_Align_1_v8 := L.Δ_lines_Both_ok
def L.diff_Align_1_v8_B (i_ : Int) (j : Int) (c : (List Int)) (c1 : Int) (K : Int → Prop) : Prop :=
  (inB (i64 ((i64 (i_ * c1)) + j)) c.length) ∧ K (c.getD ((i64 ((i64 (i_ * c1)) + j)).toNat) 0)
structure L.diff_Align_1_v8 (i_ : Int) (j : Int) (c : (List Int)) (c1 : Int) (K : Int → Prop) : Prop where
  out : L.diff_Align_1_v8_B i_ j c c1 K
def L.diff_Align_1_v8_ss : List Sh := [.int .i64, .int .i64, .rc [.ro (.int .i64)] 0, .rc [.int .i64] 0]
def L.diff_Align_1_v8_G (vs : List V) (K : V → List Ob → Prop) : Prop := L.diff_Align_1_v8 (gI (vs.getD 0 .any)) (gI (vs.getD 1 .any)) (gR (.int .i64) ((gC (vs.getD 2 .any)).getD 0 .any)) (gI ((gC (vs.getD 3 .any)).getD 0 .any)) (fun r0 => K (.xi r0) [])
def L.diff_Align_1_v8_S : SemF := fun args K => argF L.diff_Align_1_v8_ss args fun a => L.diff_Align_1_v8_G a K
theorem L.diff_Align_1_v8_eq (i_ : Int) (j : Int) (c : (List Int)) (c1 : Int) (K : V → List Ob → Prop) : run Tryd.prog L.Γ_diff_Align_1_v8 L.Δ_diff_Align_1_v8 .leaf .any Tryd.f41 [.xi i_, .xi j, .rc [.ro (.int .i64) c] 0, .rc [.xi c1] 0] K = L.diff_Align_1_v8_B i_ j c c1 (fun r0 => K (.xi r0) []) := by
  kernel_rfl
theorem L.diff_Align_1_v8_imp (vs : List V) (K : V → List Ob → Prop) : Imp (L.diff_Align_1_v8_G vs K) (run Tryd.prog L.Γ_diff_Align_1_v8 L.Δ_diff_Align_1_v8 .leaf .any Tryd.f41 (mkL L.diff_Align_1_v8_ss 0 vs) K) :=
  Imp.of (Eq.trans (b := run Tryd.prog L.Γ_diff_Align_1_v8 L.Δ_diff_Align_1_v8 .leaf .any Tryd.f41 [.xi (gI (vs.getD 0 .any)), .xi (gI (vs.getD 1 .any)), .rc [.ro (.int .i64) (gR (.int .i64) ((gC (vs.getD 2 .any)).getD 0 .any))] 0, .rc [.xi (gI ((gC (vs.getD 3 .any)).getD 0 .any))] 0] K) (by kernel_rfl) (L.diff_Align_1_v8_eq (gI (vs.getD 0 .any)) (gI (vs.getD 1 .any)) (gR (.int .i64) ((gC (vs.getD 2 .any)).getD 0 .any)) (gI ((gC (vs.getD 3 .any)).getD 0 .any)) K)) fun h => (L.diff_Align_1_v8.out h)
theorem L.diff_Align_1_v8_ok : SoundFn Tryd.prog 41 L.diff_Align_1_v8_S :=
  fn_ok (sem := run Tryd.prog L.Γ_diff_Align_1_v8 L.Δ_diff_Align_1_v8 .leaf .any Tryd.f41) (ss := L.diff_Align_1_v8_ss) (G := L.diff_Align_1_v8_G) (run_ok L.Γ_diff_Align_1_v8_ok L.Δ_diff_Align_1_v8_ok Tryd.func41 (ann := .leaf) (annOk_leaf _)) L.diff_Align_1_v8_imp
end Go.Proofs.YtkpplfghhciacaaDoor

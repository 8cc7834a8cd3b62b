/-
  Part 6 of a proof of one law by a verified reader of the program: lifted functions, their plain specifications, the law. Conditions: none.
-/
import Derived.Test.YtnpjonhoihbaeaaGreatDoorQ5
import Derived.Test.YtnpjonhoihbaeaaGreatDoorProg
set_option linter.unusedVariables false
set_option maxRecDepth 100000
namespace Go.Proofs.YtnpjonhoihbaeaaGreatDoor
open Eng
def L.Γ_e1 : Ctx := ctxC L.Γ_e5 64 L.e5_S
theorem L.Γ_e1_ok : SoundG L.pg L.Γ_e1 := ctxC_ok L.Γ_e5_ok L.e5_ok
def L.Δ_e1 : CtxO := L.Δ_e5
theorem L.Δ_e1_ok : SoundGO L.pg L.Δ_e1 := L.Δ_e5_ok
def L.e1_J1_B (l1 : L.yf) (k : Int) (m2 : L.T11) (Kn : L.T11 → Prop) : Prop :=
  (L.f0 l1 (fun r2 => (inB k m2.length) ∧ Kn (m2.set k.toNat ((m2.getD k.toNat (ByteArray.empty, [])).1, r2)))) ∧ L.f0 l1 (fun r3 => (inB k m2.length) ∧ Kn (m2.set k.toNat ((m2.getD k.toNat (ByteArray.empty, [])).1, r3)))
structure L.e1_J1 (l1 : L.yf) (k : Int) (m2 : L.T11) (Kn : L.T11 → Prop) : Prop where
  out : L.e1_J1_B l1 k m2 Kn
def L.e1_J1_d : CutD := { base := 2, vecs := [], flds := [(0, 0, .sl L.yc)], keep := [0, 2, 6], out := [], rets := [], ovecs := [], oflds := [(0, 0, .mv L.yc)], rv := [], rbase := 2 }
def L.e1_J1_ss : List Sh := [.cl 0 0, .ro .str, .int .i64]
def L.e1_J1_os : List OSh := [.cells [.vec 2], .dead, .vec L.yc true]
def L.e1_J1_G (vs : List V) (st : List Ob) (K : Ex → St) : Prop := L.e1_J1 (gR .str (gA vs 1)) (gI (gA vs 2)) (oX L.yc (gD st 2)) (fun q0_ => K .normal (bld [] [] 0 40) [.cells [.vec 2], .dead, .vec L.yc 0 q0_])
def L.e1_J1_F (vs : List V) (st : List Ob) (K : Ex → St) : Prop := fitF L.e1_J1_ss L.e1_J1_os vs st (L.e1_J1_G vs st K)
theorem L.e1_J1_eq (l1 : L.yf) (k : Int) (m2 : L.T11) (K : Ex → St) : L.e1_J1_B l1 k m2 (fun q0_ => K .normal (bld [] [] 0 40) [.cells [.vec 2], .dead, .vec L.yc 0 q0_]) = exec L.pg (CC L.pg L.Γ_e1 L.Δ_e1) (drawD L.pg L.Γ_e1 L.Δ_e1) .leaf (sub [true, true] (codeOf Tryz.f65)) (bld L.e1_J1_d.keep [.cl 0 0, .ro .str l1, .xi k] 0 40) [.cells [.vec 2], .dead, .vec L.yc 0 m2] (cutK L.e1_J1_d K) := by
  kernel_rfl
theorem L.e1_J1_ok (vs : List V) (st : List Ob) (K : Ex → St) : Imp (L.e1_J1_G vs st K) (exec L.pg (CC L.pg L.Γ_e1 L.Δ_e1) (drawD L.pg L.Γ_e1 L.Δ_e1) .leaf (sub [true, true] (codeOf Tryz.f65)) (bld L.e1_J1_d.keep (mkL L.e1_J1_ss 0 vs) 0 40) (mkOs L.e1_J1_os 0 st) (cutK L.e1_J1_d K)) :=
  Imp.of (Eq.trans (b := exec L.pg (CC L.pg L.Γ_e1 L.Δ_e1) (drawD L.pg L.Γ_e1 L.Δ_e1) .leaf (sub [true, true] (codeOf Tryz.f65)) (bld L.e1_J1_d.keep [.cl 0 0, .ro .str (gR .str (gA vs 1)), .xi (gI (gA vs 2))] 0 40) [.cells [.vec 2], .dead, .vec L.yc 0 (oX L.yc (gD st 2))] (cutK L.e1_J1_d K)) (by kernel_rfl) (Eq.symm (L.e1_J1_eq (gR .str (gA vs 1)) (gI (gA vs 2)) (oX L.yc (gD st 2)) K))) fun h => (L.e1_J1.out h)
def L.e1_B (path : ByteArray) (l : L.yf) (m1 : L.T11) (K : L.T11 → Prop) : Prop :=
  L.e5 m1 path (fun r r1 => (bif (!r1) then (0 ≤ r ∧ r ≤ (m1.length : Int) ∧ ([(path, ([] : List ByteArray))] : List (ByteArray × L.yf)).length ≠ 0 ∧ fits (m1.length + ([(path, ([] : List ByteArray))] : List (ByteArray × L.yf)).length)) ∧ L.e1_J1 l r ((m1.take r.toNat ++ ([(path, ([] : List ByteArray))] : List (ByteArray × L.yf))) ++ m1.drop r.toNat) K else L.e1_J1 l r m1 K))
structure L.e1 (path : ByteArray) (l : L.yf) (m1 : L.T11) (K : L.T11 → Prop) : Prop where
  out : L.e1_B path l m1 K
def L.e1_ss : List Sh := [.cl 0 0, .str, .ro .str]
def L.e1_os : List OSh := [.cells [.vec 1], .vec L.yc true]
def L.e1_G (vs : List V) (st : List Ob) (K : V → List Ob → Prop) : Prop := L.e1 (gS (gA vs 1)) (gR .str (gA vs 2)) (oX L.yc (gD st 1)) (fun r0 => K (.tup []) [.cells [.vec 2], .dead, .vec L.yc 0 r0])
def L.e1_S : SemO := fun args st K => argO L.e1_ss L.e1_os args st fun a s => L.e1_G a s K
theorem L.e1_eq (path : ByteArray) (l : L.yf) (m1 : L.T11) (K : V → List Ob → Prop) : runH L.pg L.Γ_e1 L.Δ_e1 (.node .leaf (.cut .leaf L.e1_J1_d 40 L.e1_J1_F)) (.tup []) [] Tryz.f65 false 2 [.cl 0 0, .x (.string path), .ro .str l] [.cells [.vec 1], .vec L.yc 0 m1] K = L.e1_B path l m1 (fun r0 => K (.tup []) [.cells [.vec 2], .dead, .vec L.yc 0 r0]) := by
  kernel_rfl
theorem L.e1_imp (vs : List V) (st : List Ob) (K : V → List Ob → Prop) : Imp (L.e1_G vs st K) (runH L.pg L.Γ_e1 L.Δ_e1 (.node .leaf (.cut .leaf L.e1_J1_d 40 L.e1_J1_F)) (.tup []) [] Tryz.f65 false 2 (mkL L.e1_ss 0 vs) (mkOs L.e1_os 0 st) K) :=
  Imp.of (Eq.trans (b := runH L.pg L.Γ_e1 L.Δ_e1 (.node .leaf (.cut .leaf L.e1_J1_d 40 L.e1_J1_F)) (.tup []) [] Tryz.f65 false 2 [.cl 0 0, .x (.string (gS (gA vs 1))), .ro .str (gR .str (gA vs 2))] [.cells [.vec 1], .vec L.yc 0 (oX L.yc (gD st 1))] K) (by kernel_rfl) (L.e1_eq (gS (gA vs 1)) (gR .str (gA vs 2)) (oX L.yc (gD st 1)) K)) fun h => (L.e1.out h)
theorem L.e1_ok : SoundO L.pg 65 L.e1_S :=
  fnO_ok (sem := runH L.pg L.Γ_e1 L.Δ_e1 (.node .leaf (.cut .leaf L.e1_J1_d 40 L.e1_J1_F)) (.tup []) [] Tryz.f65 false 2) (ss := L.e1_ss) (os := L.e1_os) (G := L.e1_G) (runH_ok L.Γ_e1_ok L.Δ_e1_ok Tryz.func65 (ann := (.node .leaf (.cut .leaf L.e1_J1_d 40 L.e1_J1_F))) rfl ⟨(annOk_leaf _), (cut_ok (ay := .leaf) (ss := L.e1_J1_ss) (os := L.e1_J1_os) (G := L.e1_J1_G) rfl (annOk_leaf _) (Nat.le_of_ble_eq_true rfl) (Nat.le_of_ble_eq_true rfl) (annOk_leaf _) L.e1_J1_ok)⟩) L.e1_imp
def L.Γ_c5 : Ctx := L.Γ_e1
theorem L.Γ_c5_ok : SoundG L.pg L.Γ_c5 := L.Γ_e1_ok
def L.Δ_c5 : CtxO := ctxE L.Δ_e1 65 [.any, .any, .sl .str] L.e1_ss L.e1_os L.e1_G
theorem L.Δ_c5_ok : SoundGO L.pg L.Δ_c5 := ctxE_ok L.Δ_e1_ok L.e1_ok
def L.c5_L1_b (s11 : L.yf) (s21 : L.yf) (v12 : Int) (v13 : Int) (self : Int → Prop) (Kx0 : Prop) (Kr : Bool → Prop) : Prop :=
  (bif (decide (v13 < v12)) then (inB v13 s11.length) ∧ (inB v13 s21.length) ∧ (bif (!((s11.getD v13.toNat ByteArray.empty).toList == (s21.getD v13.toNat ByteArray.empty).toList)) then Kr false else self (i64 (v13 + 1))) else Kx0)
def L.c5_L1_R (s11 : L.yf) (s21 : L.yf) (v12 : Int) : Nat → Int → (Prop) → (Bool → Prop) → Prop
  | 0, _, _, _ => False
  | fu + 1, v13, Kx0, Kr => L.c5_L1_b s11 s21 v12 v13 (fun v13 => L.c5_L1_R s11 s21 v12 fu v13 Kx0 Kr) Kx0 Kr
structure L.c5_L1 (s11 : L.yf) (s21 : L.yf) (v12 : Int) (v13 : Int) (Kx0 : Prop) (Kr : Bool → Prop) : Prop where
  out : ∃ fu, L.c5_L1_R s11 s21 v12 fu v13 Kx0 Kr
def L.c5_L1_d : LoopD := { base := 0, vecs := [], flds := [], keep := [0, 1, 12, 13], out := [], rets := [4], rv := [], rbase := 0 }
def L.c5_L1_ss : List Sh := [.ro .str, .ro .str, .int .i64, .int .i64]
def L.c5_L1_os : List OSh := []
def L.c5_L1_G (vs : List V) (st : List Ob) (K : Ex → St) : Prop := L.c5_L1 (gR .str (gA vs 0)) (gR .str (gA vs 1)) (gI (gA vs 2)) (gI (gA vs 3)) (K (.exit 0) (bld [] [] 0 26) []) (fun q0_ => K .ret (bld [4] [.x (.bool q0_)] 0 26) [])
def L.c5_L1_F (vs : List V) (st : List Ob) (K : Ex → St) : Prop := fitF L.c5_L1_ss L.c5_L1_os vs st (L.c5_L1_G vs st K)
theorem L.c5_L1_eq (s11 : L.yf) (s21 : L.yf) (v12 : Int) (K : Ex → St) : ∀ (fu : Nat) (v13 : Int), L.c5_L1_R s11 s21 v12 fu v13 (K (.exit 0) (bld [] [] 0 26) []) (fun q0_ => K .ret (bld [4] [.x (.bool q0_)] 0 26) []) = iterL (stepL (exec L.pg (CC L.pg L.Γ_c5 L.Δ_c5) (drawD L.pg L.Γ_c5 L.Δ_c5) .leaf (sub [true, true, false, true, false, false] (codeOf Tryz.f66))) 0 L.c5_L1_d K) fu (bld L.c5_L1_d.keep [.ro .str s11, .ro .str s21, .xi v12, .xi v13] 0 26) [] := by
  intro fu
  induction fu with
  | zero => intros; rfl
  | succ fu ih =>
    intro v13
    have e : (fun v13 => L.c5_L1_R s11 s21 v12 fu v13 (K (.exit 0) (bld [] [] 0 26) []) (fun q0_ => K .ret (bld [4] [.x (.bool q0_)] 0 26) [])) = fun v13 => iterL (stepL (exec L.pg (CC L.pg L.Γ_c5 L.Δ_c5) (drawD L.pg L.Γ_c5 L.Δ_c5) .leaf (sub [true, true, false, true, false, false] (codeOf Tryz.f66))) 0 L.c5_L1_d K) fu (bld L.c5_L1_d.keep [.ro .str s11, .ro .str s21, .xi v12, .xi v13] 0 26) [] := by
      funext v13; exact ih v13
    show L.c5_L1_b s11 s21 v12 v13 (fun v13 => L.c5_L1_R s11 s21 v12 fu v13 (K (.exit 0) (bld [] [] 0 26) []) (fun q0_ => K .ret (bld [4] [.x (.bool q0_)] 0 26) [])) (K (.exit 0) (bld [] [] 0 26) []) (fun q0_ => K .ret (bld [4] [.x (.bool q0_)] 0 26) []) = _
    rw [e]
    kernel_rfl
theorem L.c5_L1_imp (vs : List V) (st : List Ob) (K : Ex → St) (h : L.c5_L1_G vs st K) : ∃ fu, iterL (stepL (exec L.pg (CC L.pg L.Γ_c5 L.Δ_c5) (drawD L.pg L.Γ_c5 L.Δ_c5) .leaf (sub [true, true, false, true, false, false] (codeOf Tryz.f66))) 0 L.c5_L1_d K) fu (bld L.c5_L1_d.keep (mkL L.c5_L1_ss 0 vs) 0 26) (mkOs L.c5_L1_os 0 st) :=
  exMap (fun fu h => @Eq.mp _ _ (Eq.trans (L.c5_L1_eq (gR .str (gA vs 0)) (gR .str (gA vs 1)) (gI (gA vs 2)) K fu (gI (gA vs 3))) (by kernel_rfl)) h) (L.c5_L1.out h)
theorem L.c5_L1_ok : AnnOk L.pg (CC L.pg L.Γ_c5 L.Δ_c5) (drawD L.pg L.Γ_c5 L.Δ_c5) 0 (.lift L.c5_L1_d 26 L.c5_L1_F) (.loop (sub [true, true, false, true, false, false] (codeOf Tryz.f66))) :=
  lift_ok (an := .leaf) (ss := L.c5_L1_ss) (os := L.c5_L1_os) (G := L.c5_L1_G) rfl (Nat.le_of_ble_eq_true rfl) (annOk_leaf _) (L.c5_L1_imp)
def L.c5_B (s1 : L.yf) (s2 : L.yf) (K : Bool → Prop) : Prop :=
  (bif ((s1.length : Int) != (s2.length : Int)) then K false else L.c5_L1 s1 s2 (s1.length : Int) 0 (K true) (fun r => K r))
structure L.c5 (s1 : L.yf) (s2 : L.yf) (K : Bool → Prop) : Prop where
  out : L.c5_B s1 s2 K
def L.c5_ss : List Sh := [.ro .str, .ro .str]
def L.c5_G (vs : List V) (K : V → List Ob → Prop) : Prop := L.c5 (gR .str (gA vs 0)) (gR .str (gA vs 1)) (fun r0 => K (.x (.bool r0)) [])
def L.c5_S : SemF := fun args K => argF L.c5_ss args fun a => L.c5_G a K
theorem L.c5_eq (s1 : L.yf) (s2 : L.yf) (K : V → List Ob → Prop) : run L.pg L.Γ_c5 L.Δ_c5 (.node .leaf (.node .leaf (.node (.node .leaf (.lift L.c5_L1_d 26 L.c5_L1_F)) .leaf))) .any Tryz.f66 [.ro .str s1, .ro .str s2] K = L.c5_B s1 s2 (fun r0 => K (.x (.bool r0)) []) := by
  kernel_rfl
theorem L.c5_imp (vs : List V) (K : V → List Ob → Prop) : Imp (L.c5_G vs K) (run L.pg L.Γ_c5 L.Δ_c5 (.node .leaf (.node .leaf (.node (.node .leaf (.lift L.c5_L1_d 26 L.c5_L1_F)) .leaf))) .any Tryz.f66 (mkL L.c5_ss 0 vs) K) :=
  Imp.of (Eq.trans (b := run L.pg L.Γ_c5 L.Δ_c5 (.node .leaf (.node .leaf (.node (.node .leaf (.lift L.c5_L1_d 26 L.c5_L1_F)) .leaf))) .any Tryz.f66 [.ro .str (gR .str (gA vs 0)), .ro .str (gR .str (gA vs 1))] K) (by kernel_rfl) (L.c5_eq (gR .str (gA vs 0)) (gR .str (gA vs 1)) K)) fun h => (L.c5.out h)
theorem L.c5_ok : SoundFn L.pg 66 L.c5_S :=
  fn_ok (sem := run L.pg L.Γ_c5 L.Δ_c5 (.node .leaf (.node .leaf (.node (.node .leaf (.lift L.c5_L1_d 26 L.c5_L1_F)) .leaf))) .any Tryz.f66) (ss := L.c5_ss) (G := L.c5_G) (run_ok L.Γ_c5_ok L.Δ_c5_ok Tryz.func66 (ann := (.node .leaf (.node .leaf (.node (.node .leaf (.lift L.c5_L1_d 26 L.c5_L1_F)) .leaf)))) ⟨(annOk_leaf _), ⟨(annOk_leaf _), ⟨⟨(annOk_leaf _), L.c5_L1_ok⟩, (annOk_leaf _)⟩⟩⟩) L.c5_imp
def L.Γ_g0 : Ctx := ctxC L.Γ_c5 66 L.c5_S
theorem L.Γ_g0_ok : SoundG L.pg L.Γ_g0 := ctxC_ok L.Γ_c5_ok L.c5_ok
def L.Δ_g0 : CtxO := L.Δ_c5
theorem L.Δ_g0_ok : SoundGO L.pg L.Δ_g0 := L.Δ_c5_ok
def L.g0_B (text : L.yf) (part : L.yf) (at_ : Int) (K : Bool → Prop) : Prop :=
  ((((bif (bif (decide (at_ ≥ 0)) then (decide (at_ ≤ (text.length : Int))) else false) then (decide ((part.length : Int) ≤ (i64 ((text.length : Int) - at_)))) else false) == true) = true → 0 ≤ at_ ∧ at_ ≤ (i64 (at_ + (part.length : Int))) ∧ (i64 (at_ + (part.length : Int))) ≤ text.length)) ∧ (bif (bif (bif (decide (at_ ≥ 0)) then (decide (at_ ≤ (text.length : Int))) else false) then (decide ((part.length : Int) ≤ (i64 ((text.length : Int) - at_)))) else false) then L.c5 ((text.take (i64 (at_ + (part.length : Int))).toNat).drop at_.toNat) part (fun r => K (bif true then r else false)) else K false)
structure L.g0 (text : L.yf) (part : L.yf) (at_ : Int) (K : Bool → Prop) : Prop where
  out : L.g0_B text part at_ K
def L.g0_ss : List Sh := [.ro .str, .ro .str, .int .i64]
def L.g0_G (vs : List V) (K : V → List Ob → Prop) : Prop := L.g0 (gR .str (gA vs 0)) (gR .str (gA vs 1)) (gI (gA vs 2)) (fun r0 => K (.x (.bool r0)) [])
def L.g0_S : SemF := fun args K => argF L.g0_ss args fun a => L.g0_G a K
theorem L.g0_eq (text : L.yf) (part : L.yf) (at_ : Int) (K : V → List Ob → Prop) : run L.pg L.Γ_g0 L.Δ_g0 .leaf .any Tryz.f79 [.ro .str text, .ro .str part, .xi at_] K = L.g0_B text part at_ (fun r0 => K (.x (.bool r0)) []) := by
  kernel_rfl
theorem L.g0_imp (vs : List V) (K : V → List Ob → Prop) : Imp (L.g0_G vs K) (run L.pg L.Γ_g0 L.Δ_g0 .leaf .any Tryz.f79 (mkL L.g0_ss 0 vs) K) :=
  Imp.of (Eq.trans (b := run L.pg L.Γ_g0 L.Δ_g0 .leaf .any Tryz.f79 [.ro .str (gR .str (gA vs 0)), .ro .str (gR .str (gA vs 1)), .xi (gI (gA vs 2))] K) (by kernel_rfl) (L.g0_eq (gR .str (gA vs 0)) (gR .str (gA vs 1)) (gI (gA vs 2)) K)) fun h => (L.g0.out h)
theorem L.g0_ok : SoundFn L.pg 79 L.g0_S :=
  fn_ok (sem := run L.pg L.Γ_g0 L.Δ_g0 .leaf .any Tryz.f79) (ss := L.g0_ss) (G := L.g0_G) (run_ok L.Γ_g0_ok L.Δ_g0_ok Tryz.func79 (ann := .leaf) (annOk_leaf _)) L.g0_imp
def L.Γ_a6 : Ctx := ctxC L.Γ_g0 79 L.g0_S
theorem L.Γ_a6_ok : SoundG L.pg L.Γ_a6 := ctxC_ok L.Γ_g0_ok L.g0_ok
def L.Δ_a6 : CtxO := L.Δ_g0
theorem L.Δ_a6_ok : SoundGO L.pg L.Δ_a6 := L.Δ_g0_ok
def L.a6_J1_B (h : Int) (h1 : L.yf) (h2 : L.yf) (Kn : Int → Prop) : Prop :=
  L.f2 h h1 h2 (fun r => Kn r)
structure L.a6_J1 (h : Int) (h1 : L.yf) (h2 : L.yf) (Kn : Int → Prop) : Prop where
  out : L.a6_J1_B h h1 h2 Kn
def L.a6_J1_d : CutD := { base := 4, vecs := [], flds := [], keep := [1, 3, 9, 11, 12, 13, 14], out := [1, 2, 3, 9, 12, 13, 14], rets := [8], ovecs := [], oflds := [], rv := [], rbase := 0 }
def L.a6_J1_ss : List Sh := [.ro .str, .int .i64, .vec 3, .cl 1 0, .ro L.T9, .int .i64, .int .i64]
def L.a6_J1_os : List OSh := [.dead, .cells [.int .i64, .ro .str, .ro .str], .dead, .vec .str true]
def L.a6_J1_G (vs : List V) (st : List Ob) (K : Ex → St) : Prop := L.a6_J1 (cI st 1 0) (gR .str ((oC (gD st 1)).getD 1 .any)) (gR .str ((oC (gD st 1)).getD 2 .any)) (fun q0_ => K .normal (bld [1, 2, 3, 9, 12, 13, 14] [.ro .str (gR .str (gA vs 0)), .xi q0_, .xi (gI (gA vs 1)), .vec 3, .ro L.T9 (gR L.T9 (gA vs 4)), .xi (gI (gA vs 5)), .xi (gI (gA vs 6))] 0 37) [.dead, .cells [.xi (cI st 1 0), .ro .str (gR .str ((oC (gD st 1)).getD 1 .any)), .ro .str (gR .str ((oC (gD st 1)).getD 2 .any))], .dead, .vec .str 0 (oX .str (gD st 3))])
def L.a6_J1_F (vs : List V) (st : List Ob) (K : Ex → St) : Prop := fitF L.a6_J1_ss L.a6_J1_os vs st (L.a6_J1_G vs st K)
theorem L.a6_J1_eq (text1 : L.yf) (high1 : Int) (v12 : L.T10) (v13 : Int) (v14 : Int) (h : Int) (h1 : L.yf) (h2 : L.yf) (out : L.yf) (K : Ex → St) : L.a6_J1_B h h1 h2 (fun q0_ => K .normal (bld [1, 2, 3, 9, 12, 13, 14] [.ro .str text1, .xi q0_, .xi high1, .vec 3, .ro L.T9 v12, .xi v13, .xi v14] 0 37) [.dead, .cells [.xi h, .ro .str h1, .ro .str h2], .dead, .vec .str 0 out]) = exec L.pg (CC L.pg L.Γ_a6 L.Δ_a6) (drawD L.pg L.Γ_a6 L.Δ_a6) .leaf (sub [true, true, false, true, false, false, true, true, false, false, true, true] (codeOf Tryz.f80)) (bld L.a6_J1_d.keep [.ro .str text1, .xi high1, .vec 3, .cl 1 0, .ro L.T9 v12, .xi v13, .xi v14] 0 37) [.dead, .cells [.xi h, .ro .str h1, .ro .str h2], .dead, .vec .str 0 out] (cutK L.a6_J1_d K) := by
  kernel_rfl
theorem L.a6_J1_ok (vs : List V) (st : List Ob) (K : Ex → St) : Imp (L.a6_J1_G vs st K) (exec L.pg (CC L.pg L.Γ_a6 L.Δ_a6) (drawD L.pg L.Γ_a6 L.Δ_a6) .leaf (sub [true, true, false, true, false, false, true, true, false, false, true, true] (codeOf Tryz.f80)) (bld L.a6_J1_d.keep (mkL L.a6_J1_ss 0 vs) 0 37) (mkOs L.a6_J1_os 0 st) (cutK L.a6_J1_d K)) :=
  Imp.of (Eq.trans (b := exec L.pg (CC L.pg L.Γ_a6 L.Δ_a6) (drawD L.pg L.Γ_a6 L.Δ_a6) .leaf (sub [true, true, false, true, false, false, true, true, false, false, true, true] (codeOf Tryz.f80)) (bld L.a6_J1_d.keep [.ro .str (gR .str (gA vs 0)), .xi (gI (gA vs 1)), .vec 3, .cl 1 0, .ro L.T9 (gR L.T9 (gA vs 4)), .xi (gI (gA vs 5)), .xi (gI (gA vs 6))] 0 37) [.dead, .cells [.xi (cI st 1 0), .ro .str (gR .str ((oC (gD st 1)).getD 1 .any)), .ro .str (gR .str ((oC (gD st 1)).getD 2 .any))], .dead, .vec .str 0 (oX .str (gD st 3))] (cutK L.a6_J1_d K)) (by kernel_rfl) (Eq.symm (L.a6_J1_eq (gR .str (gA vs 0)) (gI (gA vs 1)) (gR L.T9 (gA vs 4)) (gI (gA vs 5)) (gI (gA vs 6)) (cI st 1 0) (gR .str ((oC (gD st 1)).getD 1 .any)) (gR .str ((oC (gD st 1)).getD 2 .any)) (oX .str (gD st 3)) K))) fun h => (L.a6_J1.out h)
def L.a6_L1_b (text1 : L.yf) (v12 : L.T10) (v13 : Int) (low1 : Int) (v14 : Int) (out : L.yf) (self : Int → Int → L.yf → Prop) (Kx0 : Int → L.yf → Prop) : Prop :=
  (bif (decide (v14 < v13)) then (inB v14 v12.length) ∧ (0 ≤ low1 ∧ low1 ≤ ((v12.getD v14.toNat (0, ([], []))).1) ∧ ((v12.getD v14.toNat (0, ([], []))).1) ≤ text1.length) ∧ ((fits (out.length + ((text1.take ((v12.getD v14.toNat (0, ([], []))).1).toNat).drop low1.toNat).length)) ∧ (fits ((out ++ ((text1.take ((v12.getD v14.toNat (0, ([], []))).1).toNat).drop low1.toNat)).length + ((v12.getD v14.toNat (0, ([], []))).2.2).length)) ∧ L.a6_J1 ((v12.getD v14.toNat (0, ([], []))).1) ((v12.getD v14.toNat (0, ([], []))).2.1) ((v12.getD v14.toNat (0, ([], []))).2.2) (fun low2 => self low2 (i64 (v14 + 1)) ((out ++ ((text1.take ((v12.getD v14.toNat (0, ([], []))).1).toNat).drop low1.toNat)) ++ (v12.getD v14.toNat (0, ([], []))).2.2))) ∧ (fits (out.length + ((text1.take ((v12.getD v14.toNat (0, ([], []))).1).toNat).drop low1.toNat).length)) ∧ (fits ((out ++ ((text1.take ((v12.getD v14.toNat (0, ([], []))).1).toNat).drop low1.toNat)).length + ((v12.getD v14.toNat (0, ([], []))).2.2).length)) ∧ L.a6_J1 ((v12.getD v14.toNat (0, ([], []))).1) ((v12.getD v14.toNat (0, ([], []))).2.1) ((v12.getD v14.toNat (0, ([], []))).2.2) (fun low2 => self low2 (i64 (v14 + 1)) ((out ++ ((text1.take ((v12.getD v14.toNat (0, ([], []))).1).toNat).drop low1.toNat)) ++ (v12.getD v14.toNat (0, ([], []))).2.2)) else Kx0 low1 out)
def L.a6_L1_R (text1 : L.yf) (v12 : L.T10) (v13 : Int) : Nat → Int → Int → L.yf → (Int → L.yf → Prop) → Prop
  | 0, _, _, _, _ => False
  | fu + 1, low1, v14, out, Kx0 => L.a6_L1_b text1 v12 v13 low1 v14 out (fun low1 v14 out => L.a6_L1_R text1 v12 v13 fu low1 v14 out Kx0) Kx0
structure L.a6_L1 (text1 : L.yf) (v12 : L.T10) (v13 : Int) (low1 : Int) (v14 : Int) (out : L.yf) (Kx0 : Int → L.yf → Prop) : Prop where
  out : ∃ fu, L.a6_L1_R text1 v12 v13 fu low1 v14 out Kx0
def L.a6_L1_d : LoopD := { base := 0, vecs := [(9, .sl .str)], flds := [], keep := [1, 2, 3, 9, 12, 13, 14], out := [1, 2, 3, 9], rets := [8], rv := [], rbase := 0 }
def L.a6_L1_ss : List Sh := [.ro .str, .int .i64, .int .i64, .vec 0, .ro L.T9, .int .i64, .int .i64]
def L.a6_L1_os : List OSh := [.vec .str true]
def L.a6_L1_G (vs : List V) (st : List Ob) (K : Ex → St) : Prop := L.a6_L1 (gR .str (gA vs 0)) (gR L.T9 (gA vs 4)) (gI (gA vs 5)) (gI (gA vs 1)) (gI (gA vs 6)) (oX .str (gD st 0)) (fun q0_ q1_ => K (.exit 0) (bld [1, 2, 3, 9] [.ro .str (gR .str (gA vs 0)), .xi q0_, .xi (gI (gA vs 2)), .vec 0] 0 37) [.vec .str 0 q1_])
def L.a6_L1_F (vs : List V) (st : List Ob) (K : Ex → St) : Prop := fitF L.a6_L1_ss L.a6_L1_os vs st (L.a6_L1_G vs st K)
theorem L.a6_L1_eq (text1 : L.yf) (high1 : Int) (v12 : L.T10) (v13 : Int) (K : Ex → St) : ∀ (fu : Nat) (low1 : Int) (v14 : Int) (out : L.yf), L.a6_L1_R text1 v12 v13 fu low1 v14 out (fun q0_ q1_ => K (.exit 0) (bld [1, 2, 3, 9] [.ro .str text1, .xi q0_, .xi high1, .vec 0] 0 37) [.vec .str 0 q1_]) = iterL (stepL (exec L.pg (CC L.pg L.Γ_a6 L.Δ_a6) (drawD L.pg L.Γ_a6 L.Δ_a6) (.node .leaf (.node .leaf (.node (.node .leaf (.cut .leaf L.a6_J1_d 37 L.a6_J1_F)) .leaf))) (sub [true, true, false, true, false, false] (codeOf Tryz.f80))) 0 L.a6_L1_d K) fu (bld L.a6_L1_d.keep [.ro .str text1, .xi low1, .xi high1, .vec 0, .ro L.T9 v12, .xi v13, .xi v14] 0 37) [.vec .str 0 out] := by
  intro fu
  induction fu with
  | zero => intros; rfl
  | succ fu ih =>
    intro low1 v14 out
    have e : (fun low1 v14 out => L.a6_L1_R text1 v12 v13 fu low1 v14 out (fun q0_ q1_ => K (.exit 0) (bld [1, 2, 3, 9] [.ro .str text1, .xi q0_, .xi high1, .vec 0] 0 37) [.vec .str 0 q1_])) = fun low1 v14 out => iterL (stepL (exec L.pg (CC L.pg L.Γ_a6 L.Δ_a6) (drawD L.pg L.Γ_a6 L.Δ_a6) (.node .leaf (.node .leaf (.node (.node .leaf (.cut .leaf L.a6_J1_d 37 L.a6_J1_F)) .leaf))) (sub [true, true, false, true, false, false] (codeOf Tryz.f80))) 0 L.a6_L1_d K) fu (bld L.a6_L1_d.keep [.ro .str text1, .xi low1, .xi high1, .vec 0, .ro L.T9 v12, .xi v13, .xi v14] 0 37) [.vec .str 0 out] := by
      funext low1 v14 out; exact ih low1 v14 out
    show L.a6_L1_b text1 v12 v13 low1 v14 out (fun low1 v14 out => L.a6_L1_R text1 v12 v13 fu low1 v14 out (fun q0_ q1_ => K (.exit 0) (bld [1, 2, 3, 9] [.ro .str text1, .xi q0_, .xi high1, .vec 0] 0 37) [.vec .str 0 q1_])) (fun q0_ q1_ => K (.exit 0) (bld [1, 2, 3, 9] [.ro .str text1, .xi q0_, .xi high1, .vec 0] 0 37) [.vec .str 0 q1_]) = _
    rw [e]
    kernel_rfl
theorem L.a6_L1_imp (vs : List V) (st : List Ob) (K : Ex → St) (h : L.a6_L1_G vs st K) : ∃ fu, iterL (stepL (exec L.pg (CC L.pg L.Γ_a6 L.Δ_a6) (drawD L.pg L.Γ_a6 L.Δ_a6) (.node .leaf (.node .leaf (.node (.node .leaf (.cut .leaf L.a6_J1_d 37 L.a6_J1_F)) .leaf))) (sub [true, true, false, true, false, false] (codeOf Tryz.f80))) 0 L.a6_L1_d K) fu (bld L.a6_L1_d.keep (mkL L.a6_L1_ss 0 vs) 0 37) (mkOs L.a6_L1_os 0 st) :=
  exMap (fun fu h => @Eq.mp _ _ (Eq.trans (L.a6_L1_eq (gR .str (gA vs 0)) (gI (gA vs 2)) (gR L.T9 (gA vs 4)) (gI (gA vs 5)) K fu (gI (gA vs 1)) (gI (gA vs 6)) (oX .str (gD st 0))) (by kernel_rfl)) h) (L.a6_L1.out h)
theorem L.a6_L1_ok : AnnOk L.pg (CC L.pg L.Γ_a6 L.Δ_a6) (drawD L.pg L.Γ_a6 L.Δ_a6) 0 (.lift L.a6_L1_d 37 L.a6_L1_F) (.loop (sub [true, true, false, true, false, false] (codeOf Tryz.f80))) :=
  lift_ok (an := (.node .leaf (.node .leaf (.node (.node .leaf (.cut .leaf L.a6_J1_d 37 L.a6_J1_F)) .leaf)))) (ss := L.a6_L1_ss) (os := L.a6_L1_os) (G := L.a6_L1_G) rfl (Nat.le_of_ble_eq_true rfl) ⟨(annOk_leaf _), ⟨(annOk_leaf _), ⟨⟨(annOk_leaf _), (cut_ok (ay := .leaf) (ss := L.a6_J1_ss) (os := L.a6_J1_os) (G := L.a6_J1_G) rfl (annOk_leaf _) (Nat.le_of_ble_eq_true rfl) (Nat.le_of_ble_eq_true rfl) (annOk_leaf _) L.a6_J1_ok)⟩, (annOk_leaf _)⟩⟩⟩ (L.a6_L1_imp)
def L.a6_B (hunks : L.T10) (text : L.yf) (low : Int) (high : Int) (K : L.yf → Prop) : Prop :=
  L.a6_L1 text hunks (hunks.length : Int) low 0 ([] : List ByteArray) (fun low1 out => (0 ≤ low1 ∧ low1 ≤ high ∧ high ≤ text.length) ∧ (fits (out.length + ((text.take high.toNat).drop low1.toNat).length)) ∧ K (out ++ ((text.take high.toNat).drop low1.toNat)))
structure L.a6 (hunks : L.T10) (text : L.yf) (low : Int) (high : Int) (K : L.yf → Prop) : Prop where
  out : L.a6_B hunks text low high K
def L.a6_ss : List Sh := [.ro L.T9, .ro .str, .int .i64, .int .i64]
def L.a6_G (vs : List V) (K : V → List Ob → Prop) : Prop := L.a6 (gR L.T9 (gA vs 0)) (gR .str (gA vs 1)) (gI (gA vs 2)) (gI (gA vs 3)) (fun r0 => K (.vec 0) [.vec .str 0 r0])
def L.a6_S : SemF := fun args K => argF L.a6_ss args fun a => L.a6_G a K
theorem L.a6_eq (hunks : L.T10) (text : L.yf) (low : Int) (high : Int) (K : V → List Ob → Prop) : run L.pg L.Γ_a6 L.Δ_a6 (.node .leaf (.node .leaf (.node (.node .leaf (.lift L.a6_L1_d 37 L.a6_L1_F)) .leaf))) (.sl .str) Tryz.f80 [.ro L.T9 hunks, .ro .str text, .xi low, .xi high] K = L.a6_B hunks text low high (fun r0 => K (.vec 0) [.vec .str 0 r0]) := by
  kernel_rfl
theorem L.a6_imp (vs : List V) (K : V → List Ob → Prop) : Imp (L.a6_G vs K) (run L.pg L.Γ_a6 L.Δ_a6 (.node .leaf (.node .leaf (.node (.node .leaf (.lift L.a6_L1_d 37 L.a6_L1_F)) .leaf))) (.sl .str) Tryz.f80 (mkL L.a6_ss 0 vs) K) :=
  Imp.of (Eq.trans (b := run L.pg L.Γ_a6 L.Δ_a6 (.node .leaf (.node .leaf (.node (.node .leaf (.lift L.a6_L1_d 37 L.a6_L1_F)) .leaf))) (.sl .str) Tryz.f80 [.ro L.T9 (gR L.T9 (gA vs 0)), .ro .str (gR .str (gA vs 1)), .xi (gI (gA vs 2)), .xi (gI (gA vs 3))] K) (by kernel_rfl) (L.a6_eq (gR L.T9 (gA vs 0)) (gR .str (gA vs 1)) (gI (gA vs 2)) (gI (gA vs 3)) K)) fun h => (L.a6.out h)
theorem L.a6_ok : SoundFn L.pg 80 L.a6_S :=
  fn_ok (sem := run L.pg L.Γ_a6 L.Δ_a6 (.node .leaf (.node .leaf (.node (.node .leaf (.lift L.a6_L1_d 37 L.a6_L1_F)) .leaf))) (.sl .str) Tryz.f80) (ss := L.a6_ss) (G := L.a6_G) (run_ok L.Γ_a6_ok L.Δ_a6_ok Tryz.func80 (ann := (.node .leaf (.node .leaf (.node (.node .leaf (.lift L.a6_L1_d 37 L.a6_L1_F)) .leaf)))) ⟨(annOk_leaf _), ⟨(annOk_leaf _), ⟨⟨(annOk_leaf _), L.a6_L1_ok⟩, (annOk_leaf _)⟩⟩⟩) L.a6_imp
def L.Γ_d5 : Ctx := ctxC L.Γ_a6 80 L.a6_S
theorem L.Γ_d5_ok : SoundG L.pg L.Γ_d5 := ctxC_ok L.Γ_a6_ok L.a6_ok
def L.Δ_d5 : CtxO := L.Δ_a6
theorem L.Δ_d5_ok : SoundGO L.pg L.Δ_d5 := L.Δ_a6_ok
def L.d5_L1_b (text1 : L.yf) (v24 : L.T10) (v25 : Int) (v26 : Int) (self : Int → Prop) (Kx0 : Prop) (Kr : Int → Int → Prop) : Prop :=
  (bif (decide (v26 < v25)) then (inB v26 v24.length) ∧ L.g0 text1 ((v24.getD v26.toNat (0, ([], []))).2.1) ((v24.getD v26.toNat (0, ([], []))).1) (fun r => (bif (!r) then Kr 19 v26 else self (i64 (v26 + 1)))) else Kx0)
def L.d5_L1_R (text1 : L.yf) (v24 : L.T10) (v25 : Int) : Nat → Int → (Prop) → (Int → Int → Prop) → Prop
  | 0, _, _, _ => False
  | fu + 1, v26, Kx0, Kr => L.d5_L1_b text1 v24 v25 v26 (fun v26 => L.d5_L1_R text1 v24 v25 fu v26 Kx0 Kr) Kx0 Kr
structure L.d5_L1 (text1 : L.yf) (v24 : L.T10) (v25 : Int) (v26 : Int) (Kx0 : Prop) (Kr : Int → Int → Prop) : Prop where
  out : ∃ fu, L.d5_L1_R text1 v24 v25 fu v26 Kx0 Kr
def L.d5_L1_d : LoopD := { base := 4, vecs := [], flds := [], keep := [1, 2, 5, 24, 25, 26], out := [1, 2, 5], rets := [4, 5], rv := [], rbase := 0 }
def L.d5_L1_ss : List Sh := [.ro .str, .cl 0 0, .cl 1 0, .ro L.T9, .int .i64, .int .i64]
def L.d5_L1_os : List OSh := [.cells [.ro L.T9], .cells [.int .i64, .int .i64], .cells [.int .i64, .int .i64], .cells [.int .i64, .int .i64]]
def L.d5_L1_G (vs : List V) (st : List Ob) (K : Ex → St) : Prop := L.d5_L1 (gR .str (gA vs 0)) (gR L.T9 (gA vs 3)) (gI (gA vs 4)) (gI (gA vs 5)) (K (.exit 0) (bld [1, 2, 5] [.ro .str (gR .str (gA vs 0)), .cl 0 0, .cl 1 0] 0 53) [.cells [.ro L.T9 (gR L.T9 ((oC (gD st 0)).getD 0 .any))], .cells [.xi (cI st 1 0), .xi (cI st 1 1)], .cells [.xi (cI st 2 0), .xi (cI st 2 1)], .cells [.xi (cI st 3 0), .xi (cI st 3 1)]]) (fun q0_ q1_ => K .ret (bld [4, 5] [.x (.slice none 0 0), .cl 0 0] 0 53) [.cells [.xi q0_, .xi q1_]])
def L.d5_L1_F (vs : List V) (st : List Ob) (K : Ex → St) : Prop := fitF L.d5_L1_ss L.d5_L1_os vs st (L.d5_L1_G vs st K)
theorem L.d5_L1_eq (text1 : L.yf) (v24 : L.T10) (v25 : Int) (p : L.T10) (m1 : Int) (m11 : Int) (m2 : Int) (m21 : Int) (m3 : Int) (m31 : Int) (K : Ex → St) : ∀ (fu : Nat) (v26 : Int), L.d5_L1_R text1 v24 v25 fu v26 (K (.exit 0) (bld [1, 2, 5] [.ro .str text1, .cl 0 0, .cl 1 0] 0 53) [.cells [.ro L.T9 p], .cells [.xi m1, .xi m11], .cells [.xi m2, .xi m21], .cells [.xi m3, .xi m31]]) (fun q0_ q1_ => K .ret (bld [4, 5] [.x (.slice none 0 0), .cl 0 0] 0 53) [.cells [.xi q0_, .xi q1_]]) = iterL (stepL (exec L.pg (CC L.pg L.Γ_d5 L.Δ_d5) (drawD L.pg L.Γ_d5 L.Δ_d5) .leaf (sub [true, true, true, false, true, false, false] (codeOf Tryz.f68))) 4 L.d5_L1_d K) fu (bld L.d5_L1_d.keep [.ro .str text1, .cl 0 0, .cl 1 0, .ro L.T9 v24, .xi v25, .xi v26] 0 53) [.cells [.ro L.T9 p], .cells [.xi m1, .xi m11], .cells [.xi m2, .xi m21], .cells [.xi m3, .xi m31]] := by
  intro fu
  induction fu with
  | zero => intros; rfl
  | succ fu ih =>
    intro v26
    have e : (fun v26 => L.d5_L1_R text1 v24 v25 fu v26 (K (.exit 0) (bld [1, 2, 5] [.ro .str text1, .cl 0 0, .cl 1 0] 0 53) [.cells [.ro L.T9 p], .cells [.xi m1, .xi m11], .cells [.xi m2, .xi m21], .cells [.xi m3, .xi m31]]) (fun q0_ q1_ => K .ret (bld [4, 5] [.x (.slice none 0 0), .cl 0 0] 0 53) [.cells [.xi q0_, .xi q1_]])) = fun v26 => iterL (stepL (exec L.pg (CC L.pg L.Γ_d5 L.Δ_d5) (drawD L.pg L.Γ_d5 L.Δ_d5) .leaf (sub [true, true, true, false, true, false, false] (codeOf Tryz.f68))) 4 L.d5_L1_d K) fu (bld L.d5_L1_d.keep [.ro .str text1, .cl 0 0, .cl 1 0, .ro L.T9 v24, .xi v25, .xi v26] 0 53) [.cells [.ro L.T9 p], .cells [.xi m1, .xi m11], .cells [.xi m2, .xi m21], .cells [.xi m3, .xi m31]] := by
      funext v26; exact ih v26
    show L.d5_L1_b text1 v24 v25 v26 (fun v26 => L.d5_L1_R text1 v24 v25 fu v26 (K (.exit 0) (bld [1, 2, 5] [.ro .str text1, .cl 0 0, .cl 1 0] 0 53) [.cells [.ro L.T9 p], .cells [.xi m1, .xi m11], .cells [.xi m2, .xi m21], .cells [.xi m3, .xi m31]]) (fun q0_ q1_ => K .ret (bld [4, 5] [.x (.slice none 0 0), .cl 0 0] 0 53) [.cells [.xi q0_, .xi q1_]])) (K (.exit 0) (bld [1, 2, 5] [.ro .str text1, .cl 0 0, .cl 1 0] 0 53) [.cells [.ro L.T9 p], .cells [.xi m1, .xi m11], .cells [.xi m2, .xi m21], .cells [.xi m3, .xi m31]]) (fun q0_ q1_ => K .ret (bld [4, 5] [.x (.slice none 0 0), .cl 0 0] 0 53) [.cells [.xi q0_, .xi q1_]]) = _
    rw [e]
    kernel_rfl
theorem L.d5_L1_imp (vs : List V) (st : List Ob) (K : Ex → St) (h : L.d5_L1_G vs st K) : ∃ fu, iterL (stepL (exec L.pg (CC L.pg L.Γ_d5 L.Δ_d5) (drawD L.pg L.Γ_d5 L.Δ_d5) .leaf (sub [true, true, true, false, true, false, false] (codeOf Tryz.f68))) 4 L.d5_L1_d K) fu (bld L.d5_L1_d.keep (mkL L.d5_L1_ss 0 vs) 0 53) (mkOs L.d5_L1_os 0 st) :=
  exMap (fun fu h => @Eq.mp _ _ (Eq.trans (L.d5_L1_eq (gR .str (gA vs 0)) (gR L.T9 (gA vs 3)) (gI (gA vs 4)) (gR L.T9 ((oC (gD st 0)).getD 0 .any)) (cI st 1 0) (cI st 1 1) (cI st 2 0) (cI st 2 1) (cI st 3 0) (cI st 3 1) K fu (gI (gA vs 5))) (by kernel_rfl)) h) (L.d5_L1.out h)
theorem L.d5_L1_ok : AnnOk L.pg (CC L.pg L.Γ_d5 L.Δ_d5) (drawD L.pg L.Γ_d5 L.Δ_d5) 0 (.lift L.d5_L1_d 53 L.d5_L1_F) (.loop (sub [true, true, true, false, true, false, false] (codeOf Tryz.f68))) :=
  lift_ok (an := .leaf) (ss := L.d5_L1_ss) (os := L.d5_L1_os) (G := L.d5_L1_G) rfl (Nat.le_of_ble_eq_true rfl) (annOk_leaf _) (L.d5_L1_imp)
def L.d5_B (p_Hunks : L.T10) (text : L.yf) (K : L.yf → Int → Int → Prop) : Prop :=
  L.c4 p_Hunks (fun rCode rIndex => (bif (!((rCode == 0) && ((rIndex == 0) && true))) then K ([] : List ByteArray) rCode rIndex else L.g1 text (-2) (fun rCode1 rIndex1 => (bif (!((rCode1 == 0) && ((rIndex1 == 0) && true))) then K ([] : List ByteArray) rCode1 rIndex1 else L.d5_L1 text p_Hunks (p_Hunks.length : Int) 0 (L.a6 p_Hunks text 0 (text.length : Int) (fun r => (bif (decide ((r.length : Int) > 120)) then K ([] : List ByteArray) 10 (-1) else K r 0 0))) (fun p r1 => K ([] : List ByteArray) p r1)))))
structure L.d5 (p_Hunks : L.T10) (text : L.yf) (K : L.yf → Int → Int → Prop) : Prop where
  out : L.d5_B p_Hunks text K
def L.d5_ss : List Sh := [.agg [.ro L.T9], .ro .str]
def L.d5_G (vs : List V) (K : V → List Ob → Prop) : Prop := L.d5 (gR L.T9 ((gC (gA vs 0)).getD 0 .any)) (gR .str (gA vs 1)) (fun r0 r1 r2 => K (.tup [.vec 0, .agg [.xi r1, .xi r2]]) [.vec .str 0 r0])
def L.d5_S : SemF := fun args K => argF L.d5_ss args fun a => L.d5_G a K
theorem L.d5_eq (p_Hunks : L.T10) (text : L.yf) (K : V → List Ob → Prop) : run L.pg L.Γ_d5 L.Δ_d5 (.node .leaf (.node .leaf (.node .leaf (.node (.node .leaf (.lift L.d5_L1_d 53 L.d5_L1_F)) .leaf)))) (.tup [.sl .str, .any]) Tryz.f68 [.agg [.ro L.T9 p_Hunks], .ro .str text] K = L.d5_B p_Hunks text (fun r0 r1 r2 => K (.tup [.vec 0, .agg [.xi r1, .xi r2]]) [.vec .str 0 r0]) := by
  kernel_rfl
theorem L.d5_imp (vs : List V) (K : V → List Ob → Prop) : Imp (L.d5_G vs K) (run L.pg L.Γ_d5 L.Δ_d5 (.node .leaf (.node .leaf (.node .leaf (.node (.node .leaf (.lift L.d5_L1_d 53 L.d5_L1_F)) .leaf)))) (.tup [.sl .str, .any]) Tryz.f68 (mkL L.d5_ss 0 vs) K) :=
  Imp.of (Eq.trans (b := run L.pg L.Γ_d5 L.Δ_d5 (.node .leaf (.node .leaf (.node .leaf (.node (.node .leaf (.lift L.d5_L1_d 53 L.d5_L1_F)) .leaf)))) (.tup [.sl .str, .any]) Tryz.f68 [.agg [.ro L.T9 (gR L.T9 ((gC (gA vs 0)).getD 0 .any))], .ro .str (gR .str (gA vs 1))] K) (by kernel_rfl) (L.d5_eq (gR L.T9 ((gC (gA vs 0)).getD 0 .any)) (gR .str (gA vs 1)) K)) fun h => (L.d5.out h)
theorem L.d5_ok : SoundFn L.pg 68 L.d5_S :=
  fn_ok (sem := run L.pg L.Γ_d5 L.Δ_d5 (.node .leaf (.node .leaf (.node .leaf (.node (.node .leaf (.lift L.d5_L1_d 53 L.d5_L1_F)) .leaf)))) (.tup [.sl .str, .any]) Tryz.f68) (ss := L.d5_ss) (G := L.d5_G) (run_ok L.Γ_d5_ok L.Δ_d5_ok Tryz.func68 (ann := (.node .leaf (.node .leaf (.node .leaf (.node (.node .leaf (.lift L.d5_L1_d 53 L.d5_L1_F)) .leaf))))) ⟨(annOk_leaf _), ⟨(annOk_leaf _), ⟨(annOk_leaf _), ⟨⟨(annOk_leaf _), L.d5_L1_ok⟩, (annOk_leaf _)⟩⟩⟩⟩) L.d5_imp
def L.Γ_e8 : Ctx := ctxC L.Γ_d5 68 L.d5_S
theorem L.Γ_e8_ok : SoundG L.pg L.Γ_e8 := ctxC_ok L.Γ_d5_ok L.d5_ok
def L.Δ_e8 : CtxO := L.Δ_d5
theorem L.Δ_e8_ok : SoundGO L.pg L.Δ_e8 := L.Δ_d5_ok
def L.e8_B (c : Int) (c1 : ByteArray) (c2 : ByteArray) (c3 : L.yf) (c4 : L.T10) (m1 : L.T11) (K : Int → L.T11 → Prop) : Prop :=
  L.e5 m1 c1 (fun r r1 => (bif (c == 1) then L.a4 m1 c1 (-1) (fun r2 => (bif r2 then K 7 m1 else (bif (decide ((m1.length : Int) ≥ 24)) then K 14 m1 else L.e1 c1 c3 m1 (fun r3 => K 0 r3)))) else (bif (!r1) then K 6 m1 else (inB r m1.length) ∧ (bif (c == 2) then L.c5 ((m1.getD r.toNat (ByteArray.empty, [])).2) c3 (fun r4 => (bif (!r4) then K 19 m1 else (0 ≤ r ∧ r < (i64 (r + 1)) ∧ (i64 (r + 1)) ≤ (m1.length : Int) ∧ fits m1.length) ∧ K 0 (m1.take r.toNat ++ m1.drop (i64 (r + 1)).toNat))) else (bif (c == 3) then L.a4 m1 c2 r (fun r5 => (bif r5 then K 7 m1 else (0 ≤ r ∧ r < (i64 (r + 1)) ∧ (i64 (r + 1)) ≤ (m1.length : Int) ∧ fits m1.length) ∧ L.e1 c2 ((m1.getD r.toNat (ByteArray.empty, [])).2) (m1.take r.toNat ++ m1.drop (i64 (r + 1)).toNat) (fun r6 => K 0 r6))) else L.d5 c4 ((m1.getD r.toNat (ByteArray.empty, [])).2) (fun r7 rCode rIndex => (bif (!((rCode == 0) && ((rIndex == 0) && true))) then K rCode m1 else (inB r m1.length) ∧ K 0 (m1.set r.toNat ((m1.getD r.toNat (ByteArray.empty, [])).1, r7)))))))))
structure L.e8 (c : Int) (c1 : ByteArray) (c2 : ByteArray) (c3 : L.yf) (c4 : L.T10) (m1 : L.T11) (K : Int → L.T11 → Prop) : Prop where
  out : L.e8_B c c1 c2 c3 c4 m1 K
def L.e8_ss : List Sh := [.agg [.int .i64, .str, .str, .ro .str, .ro L.T9], .cl 0 0]
def L.e8_os : List OSh := [.cells [.vec 1], .vec L.yc true]
def L.e8_G (vs : List V) (st : List Ob) (K : V → List Ob → Prop) : Prop := L.e8 (gI ((gC (gA vs 0)).getD 0 .any)) (gS ((gC (gA vs 0)).getD 1 .any)) (gS ((gC (gA vs 0)).getD 2 .any)) (gR .str ((gC (gA vs 0)).getD 3 .any)) (gR L.T9 ((gC (gA vs 0)).getD 4 .any)) (oX L.yc (gD st 1)) (fun r0 r1 => K (.xi r0) [.cells [.vec 2], .dead, .vec L.yc 0 r1])
def L.e8_S : SemO := fun args st K => argO L.e8_ss L.e8_os args st fun a s => L.e8_G a s K
theorem L.e8_eq (c : Int) (c1 : ByteArray) (c2 : ByteArray) (c3 : L.yf) (c4 : L.T10) (m1 : L.T11) (K : V → List Ob → Prop) : runH L.pg L.Γ_e8 L.Δ_e8 .leaf .any [(0, 0, .mv L.yc)] Tryz.f57 false 2 [.agg [.xi c, .x (.string c1), .x (.string c2), .ro .str c3, .ro L.T9 c4], .cl 0 0] [.cells [.vec 1], .vec L.yc 0 m1] K = L.e8_B c c1 c2 c3 c4 m1 (fun r0 r1 => K (.xi r0) [.cells [.vec 2], .dead, .vec L.yc 0 r1]) := by
  kernel_rfl
theorem L.e8_imp (vs : List V) (st : List Ob) (K : V → List Ob → Prop) : Imp (L.e8_G vs st K) (runH L.pg L.Γ_e8 L.Δ_e8 .leaf .any [(0, 0, .mv L.yc)] Tryz.f57 false 2 (mkL L.e8_ss 0 vs) (mkOs L.e8_os 0 st) K) :=
  Imp.of (Eq.trans (b := runH L.pg L.Γ_e8 L.Δ_e8 .leaf .any [(0, 0, .mv L.yc)] Tryz.f57 false 2 [.agg [.xi (gI ((gC (gA vs 0)).getD 0 .any)), .x (.string (gS ((gC (gA vs 0)).getD 1 .any))), .x (.string (gS ((gC (gA vs 0)).getD 2 .any))), .ro .str (gR .str ((gC (gA vs 0)).getD 3 .any)), .ro L.T9 (gR L.T9 ((gC (gA vs 0)).getD 4 .any))], .cl 0 0] [.cells [.vec 1], .vec L.yc 0 (oX L.yc (gD st 1))] K) (by kernel_rfl) (L.e8_eq (gI ((gC (gA vs 0)).getD 0 .any)) (gS ((gC (gA vs 0)).getD 1 .any)) (gS ((gC (gA vs 0)).getD 2 .any)) (gR .str ((gC (gA vs 0)).getD 3 .any)) (gR L.T9 ((gC (gA vs 0)).getD 4 .any)) (oX L.yc (gD st 1)) K)) fun h => (L.e8.out h)
theorem L.e8_ok : SoundO L.pg 57 L.e8_S :=
  fnO_ok (sem := runH L.pg L.Γ_e8 L.Δ_e8 .leaf .any [(0, 0, .mv L.yc)] Tryz.f57 false 2) (ss := L.e8_ss) (os := L.e8_os) (G := L.e8_G) (runH_ok L.Γ_e8_ok L.Δ_e8_ok Tryz.func57 (ann := .leaf) rfl (annOk_leaf _)) L.e8_imp
def L.Γ_b1 : Ctx := L.Γ_e8
theorem L.Γ_b1_ok : SoundG L.pg L.Γ_b1 := L.Γ_e8_ok
def L.Δ_b1 : CtxO := ctxE L.Δ_e8 57 [.any, .any] L.e8_ss L.e8_os L.e8_G
theorem L.Δ_b1_ok : SoundGO L.pg L.Δ_b1 := ctxE_ok L.Δ_e8_ok L.e8_ok
def L.b1_L1_b (v29 : L.T3) (v30 : Int) (v31 : Int) (m8 : L.T11) (self : Int → L.T11 → Prop) (Kx0 : L.T11 → Prop) (Kr : Int → Int → Prop) : Prop :=
  (bif (decide (v31 < v30)) then (inB v31 v29.length) ∧ L.e8 ((v29.getD v31.toNat (0, (ByteArray.empty, (ByteArray.empty, ([], []))))).1) ((v29.getD v31.toNat (0, (ByteArray.empty, (ByteArray.empty, ([], []))))).2.1) ((v29.getD v31.toNat (0, (ByteArray.empty, (ByteArray.empty, ([], []))))).2.2.1) ((v29.getD v31.toNat (0, (ByteArray.empty, (ByteArray.empty, ([], []))))).2.2.2.1) ((v29.getD v31.toNat (0, (ByteArray.empty, (ByteArray.empty, ([], []))))).2.2.2.2) m8 (fun r1 r2 => (bif (r1 != 0) then Kr r1 v31 else self (i64 (v31 + 1)) r2)) else Kx0 m8)
def L.b1_L1_R (v29 : L.T3) (v30 : Int) : Nat → Int → L.T11 → (L.T11 → Prop) → (Int → Int → Prop) → Prop
  | 0, _, _, _, _ => False
  | fu + 1, v31, m8, Kx0, Kr => L.b1_L1_b v29 v30 v31 m8 (fun v31 m8 => L.b1_L1_R v29 v30 fu v31 m8 Kx0 Kr) Kx0 Kr
structure L.b1_L1 (v29 : L.T3) (v30 : Int) (v31 : Int) (m8 : L.T11) (Kx0 : L.T11 → Prop) (Kr : Int → Int → Prop) : Prop where
  out : ∃ fu, L.b1_L1_R v29 v30 fu v31 m8 Kx0 Kr
def L.b1_L1_d : LoopD := { base := 8, vecs := [], flds := [(7, 0, .sl L.yc)], keep := [4, 5, 8, 29, 30, 31], out := [4, 5, 8], rets := [4, 5], rv := [], rbase := 0 }
def L.b1_L1_ss : List Sh := [.cl 2 0, .cl 3 0, .cl 7 0, .ro L.T1, .int .i64, .int .i64]
def L.b1_L1_os : List OSh := [.cells [.ro L.T1], .cells [.ro L.yc], .cells [.nil], .cells [.int .i64, .int .i64], .cells [.int .i64, .int .i64], .cells [.int .i64, .int .i64], .dead, .cells [.vec 8], .vec L.yc true]
def L.b1_L1_G (vs : List V) (st : List Ob) (K : Ex → St) : Prop := L.b1_L1 (gR L.T1 (gA vs 3)) (gI (gA vs 4)) (gI (gA vs 5)) (oX L.yc (gD st 8)) (fun q0_ => K (.exit 0) (bld [4, 5, 8] [.cl 2 0, .cl 3 0, .cl 7 0] 0 47) [.cells [.ro L.T1 (gR L.T1 ((oC (gD st 0)).getD 0 .any))], .cells [.ro L.yc (gR L.yc ((oC (gD st 1)).getD 0 .any))], .cells [.x (.slice none 0 0)], .cells [.xi (cI st 3 0), .xi (cI st 3 1)], .cells [.xi (cI st 4 0), .xi (cI st 4 1)], .cells [.xi (cI st 5 0), .xi (cI st 5 1)], .dead, .cells [.vec 8], .vec L.yc 0 q0_]) (fun q0_ q1_ => K .ret (bld [4, 5] [.cl 0 0, .cl 1 0] 0 47) [.cells [.x (.slice none 0 0)], .cells [.xi q0_, .xi q1_]])
def L.b1_L1_F (vs : List V) (st : List Ob) (K : Ex → St) : Prop := fitF L.b1_L1_ss L.b1_L1_os vs st (L.b1_L1_G vs st K)
theorem L.b1_L1_eq (v29 : L.T3) (v30 : Int) (m0 : L.T3) (m1 : L.T11) (m3 : Int) (m31 : Int) (m4 : Int) (m41 : Int) (m5 : Int) (m51 : Int) (K : Ex → St) : ∀ (fu : Nat) (v31 : Int) (m8 : L.T11), L.b1_L1_R v29 v30 fu v31 m8 (fun q0_ => K (.exit 0) (bld [4, 5, 8] [.cl 2 0, .cl 3 0, .cl 7 0] 0 47) [.cells [.ro L.T1 m0], .cells [.ro L.yc m1], .cells [.x (.slice none 0 0)], .cells [.xi m3, .xi m31], .cells [.xi m4, .xi m41], .cells [.xi m5, .xi m51], .dead, .cells [.vec 8], .vec L.yc 0 q0_]) (fun q0_ q1_ => K .ret (bld [4, 5] [.cl 0 0, .cl 1 0] 0 47) [.cells [.x (.slice none 0 0)], .cells [.xi q0_, .xi q1_]]) = iterL (stepL (exec L.pg (CC L.pg L.Γ_b1 L.Δ_b1) (drawD L.pg L.Γ_b1 L.Δ_b1) .leaf (sub [true, true, true, true, false, true, false, false] (codeOf Tryz.f44))) 8 L.b1_L1_d K) fu (bld L.b1_L1_d.keep [.cl 2 0, .cl 3 0, .cl 7 0, .ro L.T1 v29, .xi v30, .xi v31] 0 47) [.cells [.ro L.T1 m0], .cells [.ro L.yc m1], .cells [.x (.slice none 0 0)], .cells [.xi m3, .xi m31], .cells [.xi m4, .xi m41], .cells [.xi m5, .xi m51], .dead, .cells [.vec 8], .vec L.yc 0 m8] := by
  intro fu
  induction fu with
  | zero => intros; rfl
  | succ fu ih =>
    intro v31 m8
    have e : (fun v31 m8 => L.b1_L1_R v29 v30 fu v31 m8 (fun q0_ => K (.exit 0) (bld [4, 5, 8] [.cl 2 0, .cl 3 0, .cl 7 0] 0 47) [.cells [.ro L.T1 m0], .cells [.ro L.yc m1], .cells [.x (.slice none 0 0)], .cells [.xi m3, .xi m31], .cells [.xi m4, .xi m41], .cells [.xi m5, .xi m51], .dead, .cells [.vec 8], .vec L.yc 0 q0_]) (fun q0_ q1_ => K .ret (bld [4, 5] [.cl 0 0, .cl 1 0] 0 47) [.cells [.x (.slice none 0 0)], .cells [.xi q0_, .xi q1_]])) = fun v31 m8 => iterL (stepL (exec L.pg (CC L.pg L.Γ_b1 L.Δ_b1) (drawD L.pg L.Γ_b1 L.Δ_b1) .leaf (sub [true, true, true, true, false, true, false, false] (codeOf Tryz.f44))) 8 L.b1_L1_d K) fu (bld L.b1_L1_d.keep [.cl 2 0, .cl 3 0, .cl 7 0, .ro L.T1 v29, .xi v30, .xi v31] 0 47) [.cells [.ro L.T1 m0], .cells [.ro L.yc m1], .cells [.x (.slice none 0 0)], .cells [.xi m3, .xi m31], .cells [.xi m4, .xi m41], .cells [.xi m5, .xi m51], .dead, .cells [.vec 8], .vec L.yc 0 m8] := by
      funext v31 m8; exact ih v31 m8
    show L.b1_L1_b v29 v30 v31 m8 (fun v31 m8 => L.b1_L1_R v29 v30 fu v31 m8 (fun q0_ => K (.exit 0) (bld [4, 5, 8] [.cl 2 0, .cl 3 0, .cl 7 0] 0 47) [.cells [.ro L.T1 m0], .cells [.ro L.yc m1], .cells [.x (.slice none 0 0)], .cells [.xi m3, .xi m31], .cells [.xi m4, .xi m41], .cells [.xi m5, .xi m51], .dead, .cells [.vec 8], .vec L.yc 0 q0_]) (fun q0_ q1_ => K .ret (bld [4, 5] [.cl 0 0, .cl 1 0] 0 47) [.cells [.x (.slice none 0 0)], .cells [.xi q0_, .xi q1_]])) (fun q0_ => K (.exit 0) (bld [4, 5, 8] [.cl 2 0, .cl 3 0, .cl 7 0] 0 47) [.cells [.ro L.T1 m0], .cells [.ro L.yc m1], .cells [.x (.slice none 0 0)], .cells [.xi m3, .xi m31], .cells [.xi m4, .xi m41], .cells [.xi m5, .xi m51], .dead, .cells [.vec 8], .vec L.yc 0 q0_]) (fun q0_ q1_ => K .ret (bld [4, 5] [.cl 0 0, .cl 1 0] 0 47) [.cells [.x (.slice none 0 0)], .cells [.xi q0_, .xi q1_]]) = _
    rw [e]
    kernel_rfl
theorem L.b1_L1_imp (vs : List V) (st : List Ob) (K : Ex → St) (h : L.b1_L1_G vs st K) : ∃ fu, iterL (stepL (exec L.pg (CC L.pg L.Γ_b1 L.Δ_b1) (drawD L.pg L.Γ_b1 L.Δ_b1) .leaf (sub [true, true, true, true, false, true, false, false] (codeOf Tryz.f44))) 8 L.b1_L1_d K) fu (bld L.b1_L1_d.keep (mkL L.b1_L1_ss 0 vs) 0 47) (mkOs L.b1_L1_os 0 st) :=
  exMap (fun fu h => @Eq.mp _ _ (Eq.trans (L.b1_L1_eq (gR L.T1 (gA vs 3)) (gI (gA vs 4)) (gR L.T1 ((oC (gD st 0)).getD 0 .any)) (gR L.yc ((oC (gD st 1)).getD 0 .any)) (cI st 3 0) (cI st 3 1) (cI st 4 0) (cI st 4 1) (cI st 5 0) (cI st 5 1) K fu (gI (gA vs 5)) (oX L.yc (gD st 8))) (by kernel_rfl)) h) (L.b1_L1.out h)
theorem L.b1_L1_ok : AnnOk L.pg (CC L.pg L.Γ_b1 L.Δ_b1) (drawD L.pg L.Γ_b1 L.Δ_b1) 0 (.lift L.b1_L1_d 47 L.b1_L1_F) (.loop (sub [true, true, true, true, false, true, false, false] (codeOf Tryz.f44))) :=
  lift_ok (an := .leaf) (ss := L.b1_L1_ss) (os := L.b1_L1_os) (G := L.b1_L1_G) rfl (Nat.le_of_ble_eq_true rfl) (annOk_leaf _) (L.b1_L1_imp)
def L.b1_B (p : L.T3) (t : L.T11) (K : L.T11 → Int → Int → Prop) : Prop :=
  L.c3 p (fun rCode rIndex => (bif (!((rCode == 0) && ((rIndex == 0) && true))) then (K ([] : List (ByteArray × L.yf)) rCode rIndex) ∧ K ([] : List (ByteArray × L.yf)) rCode rIndex else L.f9 t (-2) (fun rCode1 rIndex1 => (bif (!((rCode1 == 0) && ((rIndex1 == 0) && true))) then (K ([] : List (ByteArray × L.yf)) rCode1 rIndex1) ∧ K ([] : List (ByteArray × L.yf)) rCode1 rIndex1 else L.a9 t (fun r => L.b1_L1 p (p.length : Int) 0 r (fun m => K m 0 0) (fun m1 r1 => K ([] : List (ByteArray × L.yf)) m1 r1))))))
structure L.b1 (p : L.T3) (t : L.T11) (K : L.T11 → Int → Int → Prop) : Prop where
  out : L.b1_B p t K
def L.b1_ss : List Sh := [.agg [.ro L.T1], .agg [.ro L.yc]]
def L.b1_os : List OSh := []
def L.b1_G (vs : List V) (st : List Ob) (K : V → List Ob → Prop) : Prop := L.b1 (gR L.T1 ((gC (gA vs 0)).getD 0 .any)) (gR L.yc ((gC (gA vs 1)).getD 0 .any)) (fun r0 r1 r2 => K (.tup [.agg [.ro L.yc r0], .agg [.xi r1, .xi r2]]) [])
def L.b1_S : SemO := fun args st K => argO L.b1_ss L.b1_os args st fun a s => L.b1_G a s K
theorem L.b1_eq (p : L.T3) (t : L.T11) (K : V → List Ob → Prop) : runH L.pg L.Γ_b1 L.Δ_b1 (.node .leaf (.node .leaf (.node .leaf (.node .leaf (.node (.node .leaf (.lift L.b1_L1_d 47 L.b1_L1_F)) .leaf))))) (.tup [(.agg [(.ro L.yc)]), .any]) [] Tryz.f44 false 0 [.agg [.ro L.T1 p], .agg [.ro L.yc t]] [] K = L.b1_B p t (fun r0 r1 r2 => K (.tup [.agg [.ro L.yc r0], .agg [.xi r1, .xi r2]]) []) := by
  kernel_rfl
theorem L.b1_imp (vs : List V) (st : List Ob) (K : V → List Ob → Prop) : Imp (L.b1_G vs st K) (runH L.pg L.Γ_b1 L.Δ_b1 (.node .leaf (.node .leaf (.node .leaf (.node .leaf (.node (.node .leaf (.lift L.b1_L1_d 47 L.b1_L1_F)) .leaf))))) (.tup [(.agg [(.ro L.yc)]), .any]) [] Tryz.f44 false 0 (mkL L.b1_ss 0 vs) (mkOs L.b1_os 0 st) K) :=
  Imp.of (Eq.trans (b := runH L.pg L.Γ_b1 L.Δ_b1 (.node .leaf (.node .leaf (.node .leaf (.node .leaf (.node (.node .leaf (.lift L.b1_L1_d 47 L.b1_L1_F)) .leaf))))) (.tup [(.agg [(.ro L.yc)]), .any]) [] Tryz.f44 false 0 [.agg [.ro L.T1 (gR L.T1 ((gC (gA vs 0)).getD 0 .any))], .agg [.ro L.yc (gR L.yc ((gC (gA vs 1)).getD 0 .any))]] [] K) (by kernel_rfl) (L.b1_eq (gR L.T1 ((gC (gA vs 0)).getD 0 .any)) (gR L.yc ((gC (gA vs 1)).getD 0 .any)) K)) fun h => (L.b1.out h)
theorem L.b1_ok : SoundO L.pg 44 L.b1_S :=
  fnO_ok (sem := runH L.pg L.Γ_b1 L.Δ_b1 (.node .leaf (.node .leaf (.node .leaf (.node .leaf (.node (.node .leaf (.lift L.b1_L1_d 47 L.b1_L1_F)) .leaf))))) (.tup [(.agg [(.ro L.yc)]), .any]) [] Tryz.f44 false 0) (ss := L.b1_ss) (os := L.b1_os) (G := L.b1_G) (runH_ok L.Γ_b1_ok L.Δ_b1_ok Tryz.func44 (ann := (.node .leaf (.node .leaf (.node .leaf (.node .leaf (.node (.node .leaf (.lift L.b1_L1_d 47 L.b1_L1_F)) .leaf)))))) rfl ⟨(annOk_leaf _), ⟨(annOk_leaf _), ⟨(annOk_leaf _), ⟨(annOk_leaf _), ⟨⟨(annOk_leaf _), L.b1_L1_ok⟩, (annOk_leaf _)⟩⟩⟩⟩⟩) L.b1_imp
def L.Γ_g6 : Ctx := L.Γ_b1
theorem L.Γ_g6_ok : SoundG L.pg L.Γ_g6 := L.Γ_b1_ok
def L.Δ_g6 : CtxO := ctxE L.Δ_b1 44 [.agg [.ro L.T1], .agg [.ro L.yc]] L.b1_ss L.b1_os L.b1_G
theorem L.Δ_g6_ok : SoundGO L.pg L.Δ_g6 := ctxE_ok L.Δ_b1_ok L.b1_ok
def L.g6_B (k : Int) (c : (List Int)) (K : Bool → Prop) : Prop :=
  L.f1 c k (fun r => K r)
structure L.g6 (k : Int) (c : (List Int)) (K : Bool → Prop) : Prop where
  out : L.g6_B k c K
def L.g6_ss : List Sh := [.int .i64, .rc [.ro (.int .i64)] 0]
def L.g6_G (vs : List V) (K : V → List Ob → Prop) : Prop := L.g6 (gI (gA vs 0)) (gR (.int .i64) ((gC (gA vs 1)).getD 0 .any)) (fun r0 => K (.x (.bool r0)) [])
def L.g6_S : SemF := fun args K => argF L.g6_ss args fun a => L.g6_G a K
theorem L.g6_eq (k : Int) (c : (List Int)) (K : V → List Ob → Prop) : run L.pg L.Γ_g6 L.Δ_g6 .leaf .any Tryz.f45 [.xi k, .rc [.ro (.int .i64) c] 0] K = L.g6_B k c (fun r0 => K (.x (.bool r0)) []) := by
  kernel_rfl
theorem L.g6_imp (vs : List V) (K : V → List Ob → Prop) : Imp (L.g6_G vs K) (run L.pg L.Γ_g6 L.Δ_g6 .leaf .any Tryz.f45 (mkL L.g6_ss 0 vs) K) :=
  Imp.of (Eq.trans (b := run L.pg L.Γ_g6 L.Δ_g6 .leaf .any Tryz.f45 [.xi (gI (gA vs 0)), .rc [.ro (.int .i64) (gR (.int .i64) ((gC (gA vs 1)).getD 0 .any))] 0] K) (by kernel_rfl) (L.g6_eq (gI (gA vs 0)) (gR (.int .i64) ((gC (gA vs 1)).getD 0 .any)) K)) fun h => (L.g6.out h)
theorem L.g6_ok : SoundFn L.pg 45 L.g6_S :=
  fn_ok (sem := run L.pg L.Γ_g6 L.Δ_g6 .leaf .any Tryz.f45) (ss := L.g6_ss) (G := L.g6_G) (run_ok L.Γ_g6_ok L.Δ_g6_ok Tryz.func45 (ann := .leaf) (annOk_leaf _)) L.g6_imp
def L.Γ_h1 : Ctx := ctxA L.Γ_g6 45 L.g6_ss L.g6_G
theorem L.Γ_h1_ok : SoundG L.pg L.Γ_h1 := ctxA_ok L.Γ_g6_ok L.g6_ok
def L.Δ_h1 : CtxO := L.Δ_g6
theorem L.Δ_h1_ok : SoundGO L.pg L.Δ_h1 := L.Δ_g6_ok
def L.h1_B (k : Int) (c : (List Int)) (K : Bool → Prop) : Prop :=
  L.g6 k c (fun r => K (!r))
structure L.h1 (k : Int) (c : (List Int)) (K : Bool → Prop) : Prop where
  out : L.h1_B k c K
def L.h1_ss : List Sh := [.int .i64, .rc [.fn 45 [] [.rc [.ro (.int .i64)] 0]] 0]
def L.h1_G (vs : List V) (K : V → List Ob → Prop) : Prop := L.h1 (gI (gA vs 0)) (gR (.int .i64) ((gC ((gFc ((gC (gA vs 1)).getD 0 .any)).getD 0 .any)).getD 0 .any)) (fun r0 => K (.x (.bool r0)) [])
def L.h1_S : SemF := fun args K => argF L.h1_ss args fun a => L.h1_G a K
theorem L.h1_eq (k : Int) (c : (List Int)) (K : V → List Ob → Prop) : run L.pg L.Γ_h1 L.Δ_h1 .leaf .any Tryz.f40 [.xi k, .rc [.fn (.func 45) [] [.rc [.ro (.int .i64) c] 0]] 0] K = L.h1_B k c (fun r0 => K (.x (.bool r0)) []) := by
  kernel_rfl
theorem L.h1_imp (vs : List V) (K : V → List Ob → Prop) : Imp (L.h1_G vs K) (run L.pg L.Γ_h1 L.Δ_h1 .leaf .any Tryz.f40 (mkL L.h1_ss 0 vs) K) :=
  Imp.of (Eq.trans (b := run L.pg L.Γ_h1 L.Δ_h1 .leaf .any Tryz.f40 [.xi (gI (gA vs 0)), .rc [.fn (.func 45) [] [.rc [.ro (.int .i64) (gR (.int .i64) ((gC ((gFc ((gC (gA vs 1)).getD 0 .any)).getD 0 .any)).getD 0 .any))] 0]] 0] K) (by kernel_rfl) (L.h1_eq (gI (gA vs 0)) (gR (.int .i64) ((gC ((gFc ((gC (gA vs 1)).getD 0 .any)).getD 0 .any)).getD 0 .any)) K)) fun h => (L.h1.out h)
theorem L.h1_ok : SoundFn L.pg 40 L.h1_S :=
  fn_ok (sem := run L.pg L.Γ_h1 L.Δ_h1 .leaf .any Tryz.f40) (ss := L.h1_ss) (G := L.h1_G) (run_ok L.Γ_h1_ok L.Δ_h1_ok Tryz.func40 (ann := .leaf) (annOk_leaf _)) L.h1_imp
def L.Γ_d1 : Ctx := ctxA L.Γ_h1 40 L.h1_ss L.h1_G
theorem L.Γ_d1_ok : SoundG L.pg L.Γ_d1 := ctxA_ok L.Γ_h1_ok L.h1_ok
def L.Δ_d1 : CtxO := L.Δ_h1
theorem L.Δ_d1_ok : SoundGO L.pg L.Δ_d1 := L.Δ_h1_ok
def L.d1_L1_b (s1 : (List Int)) (f1 : (List Int)) (v7 : Int) (v8 : Int) (self : Int → Prop) (Kx0 : Prop) (Kr : Int → Prop) : Prop :=
  (bif (decide (v8 < v7)) then (inB v8 s1.length) ∧ L.h1 (s1.getD v8.toNat 0) f1 (fun r => (bif r then Kr v8 else self (i64 (v8 + 1)))) else Kx0)
def L.d1_L1_R (s1 : (List Int)) (f1 : (List Int)) (v7 : Int) : Nat → Int → (Prop) → (Int → Prop) → Prop
  | 0, _, _, _ => False
  | fu + 1, v8, Kx0, Kr => L.d1_L1_b s1 f1 v7 v8 (fun v8 => L.d1_L1_R s1 f1 v7 fu v8 Kx0 Kr) Kx0 Kr
structure L.d1_L1 (s1 : (List Int)) (f1 : (List Int)) (v7 : Int) (v8 : Int) (Kx0 : Prop) (Kr : Int → Prop) : Prop where
  out : ∃ fu, L.d1_L1_R s1 f1 v7 fu v8 Kx0 Kr
def L.d1_L1_d : LoopD := { base := 0, vecs := [], flds := [], keep := [0, 1, 7, 8], out := [], rets := [4], rv := [], rbase := 0 }
def L.d1_L1_ss : List Sh := [.ro (.int .i64), .fn 40 [] [.rc [.fn 45 [] [.rc [.ro (.int .i64)] 0]] 0], .int .i64, .int .i64]
def L.d1_L1_os : List OSh := []
def L.d1_L1_G (vs : List V) (st : List Ob) (K : Ex → St) : Prop := L.d1_L1 (gR (.int .i64) (gA vs 0)) (gR (.int .i64) ((gC ((gFc ((gC ((gFc (gA vs 1)).getD 0 .any)).getD 0 .any)).getD 0 .any)).getD 0 .any)) (gI (gA vs 2)) (gI (gA vs 3)) (K (.exit 0) (bld [] [] 0 19) []) (fun q0_ => K .ret (bld [4] [.xi q0_] 0 19) [])
def L.d1_L1_F (vs : List V) (st : List Ob) (K : Ex → St) : Prop := fitF L.d1_L1_ss L.d1_L1_os vs st (L.d1_L1_G vs st K)
theorem L.d1_L1_eq (s1 : (List Int)) (f1 : (List Int)) (v7 : Int) (K : Ex → St) : ∀ (fu : Nat) (v8 : Int), L.d1_L1_R s1 f1 v7 fu v8 (K (.exit 0) (bld [] [] 0 19) []) (fun q0_ => K .ret (bld [4] [.xi q0_] 0 19) []) = iterL (stepL (exec L.pg (CC L.pg L.Γ_d1 L.Δ_d1) (drawD L.pg L.Γ_d1 L.Δ_d1) .leaf (sub [true, false, true, false, false] (codeOf Tryz.f54))) 0 L.d1_L1_d K) fu (bld L.d1_L1_d.keep [.ro (.int .i64) s1, .fn (.func 40) [] [.rc [.fn (.func 45) [] [.rc [.ro (.int .i64) f1] 0]] 0], .xi v7, .xi v8] 0 19) [] := by
  intro fu
  induction fu with
  | zero => intros; rfl
  | succ fu ih =>
    intro v8
    have e : (fun v8 => L.d1_L1_R s1 f1 v7 fu v8 (K (.exit 0) (bld [] [] 0 19) []) (fun q0_ => K .ret (bld [4] [.xi q0_] 0 19) [])) = fun v8 => iterL (stepL (exec L.pg (CC L.pg L.Γ_d1 L.Δ_d1) (drawD L.pg L.Γ_d1 L.Δ_d1) .leaf (sub [true, false, true, false, false] (codeOf Tryz.f54))) 0 L.d1_L1_d K) fu (bld L.d1_L1_d.keep [.ro (.int .i64) s1, .fn (.func 40) [] [.rc [.fn (.func 45) [] [.rc [.ro (.int .i64) f1] 0]] 0], .xi v7, .xi v8] 0 19) [] := by
      funext v8; exact ih v8
    show L.d1_L1_b s1 f1 v7 v8 (fun v8 => L.d1_L1_R s1 f1 v7 fu v8 (K (.exit 0) (bld [] [] 0 19) []) (fun q0_ => K .ret (bld [4] [.xi q0_] 0 19) [])) (K (.exit 0) (bld [] [] 0 19) []) (fun q0_ => K .ret (bld [4] [.xi q0_] 0 19) []) = _
    rw [e]
    kernel_rfl
theorem L.d1_L1_imp (vs : List V) (st : List Ob) (K : Ex → St) (h : L.d1_L1_G vs st K) : ∃ fu, iterL (stepL (exec L.pg (CC L.pg L.Γ_d1 L.Δ_d1) (drawD L.pg L.Γ_d1 L.Δ_d1) .leaf (sub [true, false, true, false, false] (codeOf Tryz.f54))) 0 L.d1_L1_d K) fu (bld L.d1_L1_d.keep (mkL L.d1_L1_ss 0 vs) 0 19) (mkOs L.d1_L1_os 0 st) :=
  exMap (fun fu h => @Eq.mp _ _ (Eq.trans (L.d1_L1_eq (gR (.int .i64) (gA vs 0)) (gR (.int .i64) ((gC ((gFc ((gC ((gFc (gA vs 1)).getD 0 .any)).getD 0 .any)).getD 0 .any)).getD 0 .any)) (gI (gA vs 2)) K fu (gI (gA vs 3))) (by kernel_rfl)) h) (L.d1_L1.out h)
theorem L.d1_L1_ok : AnnOk L.pg (CC L.pg L.Γ_d1 L.Δ_d1) (drawD L.pg L.Γ_d1 L.Δ_d1) 0 (.lift L.d1_L1_d 19 L.d1_L1_F) (.loop (sub [true, false, true, false, false] (codeOf Tryz.f54))) :=
  lift_ok (an := .leaf) (ss := L.d1_L1_ss) (os := L.d1_L1_os) (G := L.d1_L1_G) rfl (Nat.le_of_ble_eq_true rfl) (annOk_leaf _) (L.d1_L1_imp)
def L.d1_B (s : (List Int)) (f : (List Int)) (K : Int → Prop) : Prop :=
  L.d1_L1 s f (s.length : Int) 0 (K (-1)) (fun r => K r)
structure L.d1 (s : (List Int)) (f : (List Int)) (K : Int → Prop) : Prop where
  out : L.d1_B s f K
def L.d1_ss : List Sh := [.ro (.int .i64), .fn 40 [] [.rc [.fn 45 [] [.rc [.ro (.int .i64)] 0]] 0]]
def L.d1_G (vs : List V) (K : V → List Ob → Prop) : Prop := L.d1 (gR (.int .i64) (gA vs 0)) (gR (.int .i64) ((gC ((gFc ((gC ((gFc (gA vs 1)).getD 0 .any)).getD 0 .any)).getD 0 .any)).getD 0 .any)) (fun r0 => K (.xi r0) [])
def L.d1_S : SemF := fun args K => argF L.d1_ss args fun a => L.d1_G a K
theorem L.d1_eq (s : (List Int)) (f : (List Int)) (K : V → List Ob → Prop) : run L.pg L.Γ_d1 L.Δ_d1 (.node .leaf (.node (.node .leaf (.lift L.d1_L1_d 19 L.d1_L1_F)) .leaf)) .any Tryz.f54 [.ro (.int .i64) s, .fn (.func 40) [] [.rc [.fn (.func 45) [] [.rc [.ro (.int .i64) f] 0]] 0]] K = L.d1_B s f (fun r0 => K (.xi r0) []) := by
  kernel_rfl
theorem L.d1_imp (vs : List V) (K : V → List Ob → Prop) : Imp (L.d1_G vs K) (run L.pg L.Γ_d1 L.Δ_d1 (.node .leaf (.node (.node .leaf (.lift L.d1_L1_d 19 L.d1_L1_F)) .leaf)) .any Tryz.f54 (mkL L.d1_ss 0 vs) K) :=
  Imp.of (Eq.trans (b := run L.pg L.Γ_d1 L.Δ_d1 (.node .leaf (.node (.node .leaf (.lift L.d1_L1_d 19 L.d1_L1_F)) .leaf)) .any Tryz.f54 [.ro (.int .i64) (gR (.int .i64) (gA vs 0)), .fn (.func 40) [] [.rc [.fn (.func 45) [] [.rc [.ro (.int .i64) (gR (.int .i64) ((gC ((gFc ((gC ((gFc (gA vs 1)).getD 0 .any)).getD 0 .any)).getD 0 .any)).getD 0 .any))] 0]] 0]] K) (by kernel_rfl) (L.d1_eq (gR (.int .i64) (gA vs 0)) (gR (.int .i64) ((gC ((gFc ((gC ((gFc (gA vs 1)).getD 0 .any)).getD 0 .any)).getD 0 .any)).getD 0 .any)) K)) fun h => (L.d1.out h)
theorem L.d1_ok : SoundFn L.pg 54 L.d1_S :=
  fn_ok (sem := run L.pg L.Γ_d1 L.Δ_d1 (.node .leaf (.node (.node .leaf (.lift L.d1_L1_d 19 L.d1_L1_F)) .leaf)) .any Tryz.f54) (ss := L.d1_ss) (G := L.d1_G) (run_ok L.Γ_d1_ok L.Δ_d1_ok Tryz.func54 (ann := (.node .leaf (.node (.node .leaf (.lift L.d1_L1_d 19 L.d1_L1_F)) .leaf))) ⟨(annOk_leaf _), ⟨⟨(annOk_leaf _), L.d1_L1_ok⟩, (annOk_leaf _)⟩⟩) L.d1_imp
def L.Γ_g7 : Ctx := ctxA L.Γ_d1 54 L.d1_ss L.d1_G
theorem L.Γ_g7_ok : SoundG L.pg L.Γ_g7 := ctxA_ok L.Γ_d1_ok L.d1_ok
def L.Δ_g7 : CtxO := L.Δ_d1
theorem L.Δ_g7_ok : SoundGO L.pg L.Δ_g7 := L.Δ_d1_ok
def L.g7_B (s : (List Int)) (f : (List Int)) (K : Bool → Prop) : Prop :=
  L.d1 s f (fun r => K (decide (r ≥ 0)))
structure L.g7 (s : (List Int)) (f : (List Int)) (K : Bool → Prop) : Prop where
  out : L.g7_B s f K
def L.g7_ss : List Sh := [.ro (.int .i64), .fn 40 [] [.rc [.fn 45 [] [.rc [.ro (.int .i64)] 0]] 0]]
def L.g7_G (vs : List V) (K : V → List Ob → Prop) : Prop := L.g7 (gR (.int .i64) (gA vs 0)) (gR (.int .i64) ((gC ((gFc ((gC ((gFc (gA vs 1)).getD 0 .any)).getD 0 .any)).getD 0 .any)).getD 0 .any)) (fun r0 => K (.x (.bool r0)) [])
def L.g7_S : SemF := fun args K => argF L.g7_ss args fun a => L.g7_G a K
theorem L.g7_eq (s : (List Int)) (f : (List Int)) (K : V → List Ob → Prop) : run L.pg L.Γ_g7 L.Δ_g7 .leaf .any Tryz.f39 [.ro (.int .i64) s, .fn (.func 40) [] [.rc [.fn (.func 45) [] [.rc [.ro (.int .i64) f] 0]] 0]] K = L.g7_B s f (fun r0 => K (.x (.bool r0)) []) := by
  kernel_rfl
theorem L.g7_imp (vs : List V) (K : V → List Ob → Prop) : Imp (L.g7_G vs K) (run L.pg L.Γ_g7 L.Δ_g7 .leaf .any Tryz.f39 (mkL L.g7_ss 0 vs) K) :=
  Imp.of (Eq.trans (b := run L.pg L.Γ_g7 L.Δ_g7 .leaf .any Tryz.f39 [.ro (.int .i64) (gR (.int .i64) (gA vs 0)), .fn (.func 40) [] [.rc [.fn (.func 45) [] [.rc [.ro (.int .i64) (gR (.int .i64) ((gC ((gFc ((gC ((gFc (gA vs 1)).getD 0 .any)).getD 0 .any)).getD 0 .any)).getD 0 .any))] 0]] 0]] K) (by kernel_rfl) (L.g7_eq (gR (.int .i64) (gA vs 0)) (gR (.int .i64) ((gC ((gFc ((gC ((gFc (gA vs 1)).getD 0 .any)).getD 0 .any)).getD 0 .any)).getD 0 .any)) K)) fun h => (L.g7.out h)
theorem L.g7_ok : SoundFn L.pg 39 L.g7_S :=
  fn_ok (sem := run L.pg L.Γ_g7 L.Δ_g7 .leaf .any Tryz.f39) (ss := L.g7_ss) (G := L.g7_G) (run_ok L.Γ_g7_ok L.Δ_g7_ok Tryz.func39 (ann := .leaf) (annOk_leaf _)) L.g7_imp
def L.Γ_f5 : Ctx := ctxA L.Γ_g7 39 L.g7_ss L.g7_G
theorem L.Γ_f5_ok : SoundG L.pg L.Γ_f5 := ctxA_ok L.Γ_g7_ok L.g7_ok
def L.Δ_f5 : CtxO := L.Δ_g7
theorem L.Δ_f5_ok : SoundGO L.pg L.Δ_f5 := L.Δ_g7_ok
def L.f5_B (set : (List Int)) (c : (List Int)) (K : Bool → Prop) : Prop :=
  L.g7 set c (fun r => K (!r))
structure L.f5 (set : (List Int)) (c : (List Int)) (K : Bool → Prop) : Prop where
  out : L.f5_B set c K
def L.f5_ss : List Sh := [.ro (.int .i64), .rc [.fn 45 [] [.rc [.ro (.int .i64)] 0]] 0]
def L.f5_G (vs : List V) (K : V → List Ob → Prop) : Prop := L.f5 (gR (.int .i64) (gA vs 0)) (gR (.int .i64) ((gC ((gFc ((gC (gA vs 1)).getD 0 .any)).getD 0 .any)).getD 0 .any)) (fun r0 => K (.x (.bool r0)) [])
def L.f5_S : SemF := fun args K => argF L.f5_ss args fun a => L.f5_G a K
theorem L.f5_eq (set : (List Int)) (c : (List Int)) (K : V → List Ob → Prop) : run L.pg L.Γ_f5 L.Δ_f5 .leaf .any Tryz.f38 [.ro (.int .i64) set, .rc [.fn (.func 45) [] [.rc [.ro (.int .i64) c] 0]] 0] K = L.f5_B set c (fun r0 => K (.x (.bool r0)) []) := by
  kernel_rfl
theorem L.f5_imp (vs : List V) (K : V → List Ob → Prop) : Imp (L.f5_G vs K) (run L.pg L.Γ_f5 L.Δ_f5 .leaf .any Tryz.f38 (mkL L.f5_ss 0 vs) K) :=
  Imp.of (Eq.trans (b := run L.pg L.Γ_f5 L.Δ_f5 .leaf .any Tryz.f38 [.ro (.int .i64) (gR (.int .i64) (gA vs 0)), .rc [.fn (.func 45) [] [.rc [.ro (.int .i64) (gR (.int .i64) ((gC ((gFc ((gC (gA vs 1)).getD 0 .any)).getD 0 .any)).getD 0 .any))] 0]] 0] K) (by kernel_rfl) (L.f5_eq (gR (.int .i64) (gA vs 0)) (gR (.int .i64) ((gC ((gFc ((gC (gA vs 1)).getD 0 .any)).getD 0 .any)).getD 0 .any)) K)) fun h => (L.f5.out h)
theorem L.f5_ok : SoundFn L.pg 38 L.f5_S :=
  fn_ok (sem := run L.pg L.Γ_f5 L.Δ_f5 .leaf .any Tryz.f38) (ss := L.f5_ss) (G := L.f5_G) (run_ok L.Γ_f5_ok L.Δ_f5_ok Tryz.func38 (ann := .leaf) (annOk_leaf _)) L.f5_imp
def L.Γ_d2 : Ctx := ctxA L.Γ_f5 38 L.f5_ss L.f5_G
theorem L.Γ_d2_ok : SoundG L.pg L.Γ_d2 := ctxA_ok L.Γ_f5_ok L.f5_ok
def L.Δ_d2 : CtxO := L.Δ_f5
theorem L.Δ_d2_ok : SoundGO L.pg L.Δ_d2 := L.Δ_f5_ok
def L.d2_L1_b (s1 : L.yi) (f1 : (List Int)) (v7 : Int) (v8 : Int) (self : Int → Prop) (Kx0 : Prop) (Kr : Int → Prop) : Prop :=
  (bif (decide (v8 < v7)) then (inB v8 s1.length) ∧ L.f5 (s1.getD v8.toNat []) f1 (fun r => (bif r then Kr v8 else self (i64 (v8 + 1)))) else Kx0)
def L.d2_L1_R (s1 : L.yi) (f1 : (List Int)) (v7 : Int) : Nat → Int → (Prop) → (Int → Prop) → Prop
  | 0, _, _, _ => False
  | fu + 1, v8, Kx0, Kr => L.d2_L1_b s1 f1 v7 v8 (fun v8 => L.d2_L1_R s1 f1 v7 fu v8 Kx0 Kr) Kx0 Kr
structure L.d2_L1 (s1 : L.yi) (f1 : (List Int)) (v7 : Int) (v8 : Int) (Kx0 : Prop) (Kr : Int → Prop) : Prop where
  out : ∃ fu, L.d2_L1_R s1 f1 v7 fu v8 Kx0 Kr
def L.d2_L1_d : LoopD := { base := 0, vecs := [], flds := [], keep := [0, 1, 7, 8], out := [], rets := [4], rv := [], rbase := 0 }
def L.d2_L1_ss : List Sh := [.ro L.ye, .fn 38 [] [.rc [.fn 45 [] [.rc [.ro (.int .i64)] 0]] 0], .int .i64, .int .i64]
def L.d2_L1_os : List OSh := []
def L.d2_L1_G (vs : List V) (st : List Ob) (K : Ex → St) : Prop := L.d2_L1 (gR L.ye (gA vs 0)) (gR (.int .i64) ((gC ((gFc ((gC ((gFc (gA vs 1)).getD 0 .any)).getD 0 .any)).getD 0 .any)).getD 0 .any)) (gI (gA vs 2)) (gI (gA vs 3)) (K (.exit 0) (bld [] [] 0 19) []) (fun q0_ => K .ret (bld [4] [.xi q0_] 0 19) [])
def L.d2_L1_F (vs : List V) (st : List Ob) (K : Ex → St) : Prop := fitF L.d2_L1_ss L.d2_L1_os vs st (L.d2_L1_G vs st K)
theorem L.d2_L1_eq (s1 : L.yi) (f1 : (List Int)) (v7 : Int) (K : Ex → St) : ∀ (fu : Nat) (v8 : Int), L.d2_L1_R s1 f1 v7 fu v8 (K (.exit 0) (bld [] [] 0 19) []) (fun q0_ => K .ret (bld [4] [.xi q0_] 0 19) []) = iterL (stepL (exec L.pg (CC L.pg L.Γ_d2 L.Δ_d2) (drawD L.pg L.Γ_d2 L.Δ_d2) .leaf (sub [true, false, true, false, false] (codeOf Tryz.f53))) 0 L.d2_L1_d K) fu (bld L.d2_L1_d.keep [.ro L.ye s1, .fn (.func 38) [] [.rc [.fn (.func 45) [] [.rc [.ro (.int .i64) f1] 0]] 0], .xi v7, .xi v8] 0 19) [] := by
  intro fu
  induction fu with
  | zero => intros; rfl
  | succ fu ih =>
    intro v8
    have e : (fun v8 => L.d2_L1_R s1 f1 v7 fu v8 (K (.exit 0) (bld [] [] 0 19) []) (fun q0_ => K .ret (bld [4] [.xi q0_] 0 19) [])) = fun v8 => iterL (stepL (exec L.pg (CC L.pg L.Γ_d2 L.Δ_d2) (drawD L.pg L.Γ_d2 L.Δ_d2) .leaf (sub [true, false, true, false, false] (codeOf Tryz.f53))) 0 L.d2_L1_d K) fu (bld L.d2_L1_d.keep [.ro L.ye s1, .fn (.func 38) [] [.rc [.fn (.func 45) [] [.rc [.ro (.int .i64) f1] 0]] 0], .xi v7, .xi v8] 0 19) [] := by
      funext v8; exact ih v8
    show L.d2_L1_b s1 f1 v7 v8 (fun v8 => L.d2_L1_R s1 f1 v7 fu v8 (K (.exit 0) (bld [] [] 0 19) []) (fun q0_ => K .ret (bld [4] [.xi q0_] 0 19) [])) (K (.exit 0) (bld [] [] 0 19) []) (fun q0_ => K .ret (bld [4] [.xi q0_] 0 19) []) = _
    rw [e]
    kernel_rfl
theorem L.d2_L1_imp (vs : List V) (st : List Ob) (K : Ex → St) (h : L.d2_L1_G vs st K) : ∃ fu, iterL (stepL (exec L.pg (CC L.pg L.Γ_d2 L.Δ_d2) (drawD L.pg L.Γ_d2 L.Δ_d2) .leaf (sub [true, false, true, false, false] (codeOf Tryz.f53))) 0 L.d2_L1_d K) fu (bld L.d2_L1_d.keep (mkL L.d2_L1_ss 0 vs) 0 19) (mkOs L.d2_L1_os 0 st) :=
  exMap (fun fu h => @Eq.mp _ _ (Eq.trans (L.d2_L1_eq (gR L.ye (gA vs 0)) (gR (.int .i64) ((gC ((gFc ((gC ((gFc (gA vs 1)).getD 0 .any)).getD 0 .any)).getD 0 .any)).getD 0 .any)) (gI (gA vs 2)) K fu (gI (gA vs 3))) (by kernel_rfl)) h) (L.d2_L1.out h)
theorem L.d2_L1_ok : AnnOk L.pg (CC L.pg L.Γ_d2 L.Δ_d2) (drawD L.pg L.Γ_d2 L.Δ_d2) 0 (.lift L.d2_L1_d 19 L.d2_L1_F) (.loop (sub [true, false, true, false, false] (codeOf Tryz.f53))) :=
  lift_ok (an := .leaf) (ss := L.d2_L1_ss) (os := L.d2_L1_os) (G := L.d2_L1_G) rfl (Nat.le_of_ble_eq_true rfl) (annOk_leaf _) (L.d2_L1_imp)
def L.d2_B (s : L.yi) (f : (List Int)) (K : Int → Prop) : Prop :=
  L.d2_L1 s f (s.length : Int) 0 (K (-1)) (fun r => K r)
structure L.d2 (s : L.yi) (f : (List Int)) (K : Int → Prop) : Prop where
  out : L.d2_B s f K
def L.d2_ss : List Sh := [.ro L.ye, .fn 38 [] [.rc [.fn 45 [] [.rc [.ro (.int .i64)] 0]] 0]]
def L.d2_G (vs : List V) (K : V → List Ob → Prop) : Prop := L.d2 (gR L.ye (gA vs 0)) (gR (.int .i64) ((gC ((gFc ((gC ((gFc (gA vs 1)).getD 0 .any)).getD 0 .any)).getD 0 .any)).getD 0 .any)) (fun r0 => K (.xi r0) [])
def L.d2_S : SemF := fun args K => argF L.d2_ss args fun a => L.d2_G a K
theorem L.d2_eq (s : L.yi) (f : (List Int)) (K : V → List Ob → Prop) : run L.pg L.Γ_d2 L.Δ_d2 (.node .leaf (.node (.node .leaf (.lift L.d2_L1_d 19 L.d2_L1_F)) .leaf)) .any Tryz.f53 [.ro L.ye s, .fn (.func 38) [] [.rc [.fn (.func 45) [] [.rc [.ro (.int .i64) f] 0]] 0]] K = L.d2_B s f (fun r0 => K (.xi r0) []) := by
  kernel_rfl
theorem L.d2_imp (vs : List V) (K : V → List Ob → Prop) : Imp (L.d2_G vs K) (run L.pg L.Γ_d2 L.Δ_d2 (.node .leaf (.node (.node .leaf (.lift L.d2_L1_d 19 L.d2_L1_F)) .leaf)) .any Tryz.f53 (mkL L.d2_ss 0 vs) K) :=
  Imp.of (Eq.trans (b := run L.pg L.Γ_d2 L.Δ_d2 (.node .leaf (.node (.node .leaf (.lift L.d2_L1_d 19 L.d2_L1_F)) .leaf)) .any Tryz.f53 [.ro L.ye (gR L.ye (gA vs 0)), .fn (.func 38) [] [.rc [.fn (.func 45) [] [.rc [.ro (.int .i64) (gR (.int .i64) ((gC ((gFc ((gC ((gFc (gA vs 1)).getD 0 .any)).getD 0 .any)).getD 0 .any)).getD 0 .any))] 0]] 0]] K) (by kernel_rfl) (L.d2_eq (gR L.ye (gA vs 0)) (gR (.int .i64) ((gC ((gFc ((gC ((gFc (gA vs 1)).getD 0 .any)).getD 0 .any)).getD 0 .any)).getD 0 .any)) K)) fun h => (L.d2.out h)
theorem L.d2_ok : SoundFn L.pg 53 L.d2_S :=
  fn_ok (sem := run L.pg L.Γ_d2 L.Δ_d2 (.node .leaf (.node (.node .leaf (.lift L.d2_L1_d 19 L.d2_L1_F)) .leaf)) .any Tryz.f53) (ss := L.d2_ss) (G := L.d2_G) (run_ok L.Γ_d2_ok L.Δ_d2_ok Tryz.func53 (ann := (.node .leaf (.node (.node .leaf (.lift L.d2_L1_d 19 L.d2_L1_F)) .leaf))) ⟨(annOk_leaf _), ⟨⟨(annOk_leaf _), L.d2_L1_ok⟩, (annOk_leaf _)⟩⟩) L.d2_imp
def L.Γ_h0 : Ctx := ctxA L.Γ_d2 53 L.d2_ss L.d2_G
theorem L.Γ_h0_ok : SoundG L.pg L.Γ_h0 := ctxA_ok L.Γ_d2_ok L.d2_ok
def L.Δ_h0 : CtxO := L.Δ_d2
theorem L.Δ_h0_ok : SoundGO L.pg L.Δ_h0 := L.Δ_d2_ok
def L.h0_B (s : L.yi) (f : (List Int)) (K : Bool → Prop) : Prop :=
  L.d2 s f (fun r => K (decide (r ≥ 0)))
structure L.h0 (s : L.yi) (f : (List Int)) (K : Bool → Prop) : Prop where
  out : L.h0_B s f K
def L.h0_ss : List Sh := [.ro L.ye, .fn 38 [] [.rc [.fn 45 [] [.rc [.ro (.int .i64)] 0]] 0]]
def L.h0_G (vs : List V) (K : V → List Ob → Prop) : Prop := L.h0 (gR L.ye (gA vs 0)) (gR (.int .i64) ((gC ((gFc ((gC ((gFc (gA vs 1)).getD 0 .any)).getD 0 .any)).getD 0 .any)).getD 0 .any)) (fun r0 => K (.x (.bool r0)) [])
def L.h0_S : SemF := fun args K => argF L.h0_ss args fun a => L.h0_G a K
theorem L.h0_eq (s : L.yi) (f : (List Int)) (K : V → List Ob → Prop) : run L.pg L.Γ_h0 L.Δ_h0 .leaf .any Tryz.f37 [.ro L.ye s, .fn (.func 38) [] [.rc [.fn (.func 45) [] [.rc [.ro (.int .i64) f] 0]] 0]] K = L.h0_B s f (fun r0 => K (.x (.bool r0)) []) := by
  kernel_rfl
theorem L.h0_imp (vs : List V) (K : V → List Ob → Prop) : Imp (L.h0_G vs K) (run L.pg L.Γ_h0 L.Δ_h0 .leaf .any Tryz.f37 (mkL L.h0_ss 0 vs) K) :=
  Imp.of (Eq.trans (b := run L.pg L.Γ_h0 L.Δ_h0 .leaf .any Tryz.f37 [.ro L.ye (gR L.ye (gA vs 0)), .fn (.func 38) [] [.rc [.fn (.func 45) [] [.rc [.ro (.int .i64) (gR (.int .i64) ((gC ((gFc ((gC ((gFc (gA vs 1)).getD 0 .any)).getD 0 .any)).getD 0 .any)).getD 0 .any))] 0]] 0]] K) (by kernel_rfl) (L.h0_eq (gR L.ye (gA vs 0)) (gR (.int .i64) ((gC ((gFc ((gC ((gFc (gA vs 1)).getD 0 .any)).getD 0 .any)).getD 0 .any)).getD 0 .any)) K)) fun h => (L.h0.out h)
theorem L.h0_ok : SoundFn L.pg 37 L.h0_S :=
  fn_ok (sem := run L.pg L.Γ_h0 L.Δ_h0 .leaf .any Tryz.f37) (ss := L.h0_ss) (G := L.h0_G) (run_ok L.Γ_h0_ok L.Δ_h0_ok Tryz.func37 (ann := .leaf) (annOk_leaf _)) L.h0_imp
def L.Γ_f6 : Ctx := ctxA L.Γ_h0 37 L.h0_ss L.h0_G
theorem L.Γ_f6_ok : SoundG L.pg L.Γ_f6 := ctxA_ok L.Γ_h0_ok L.h0_ok
def L.Δ_f6 : CtxO := L.Δ_h0
theorem L.Δ_f6_ok : SoundGO L.pg L.Δ_f6 := L.Δ_h0_ok
def L.f6_B (culprits : L.yi) (in_ : (List Int)) (K : Bool → Prop) : Prop :=
  L.h0 culprits in_ (fun r => K r)
structure L.f6 (culprits : L.yi) (in_ : (List Int)) (K : Bool → Prop) : Prop where
  out : L.f6_B culprits in_ K
def L.f6_ss : List Sh := [.ro L.ye, .fn 45 [] [.rc [.ro (.int .i64)] 0]]
def L.f6_G (vs : List V) (K : V → List Ob → Prop) : Prop := L.f6 (gR L.ye (gA vs 0)) (gR (.int .i64) ((gC ((gFc (gA vs 1)).getD 0 .any)).getD 0 .any)) (fun r0 => K (.x (.bool r0)) [])
def L.f6_S : SemF := fun args K => argF L.f6_ss args fun a => L.f6_G a K
theorem L.f6_eq (culprits : L.yi) (in_ : (List Int)) (K : V → List Ob → Prop) : run L.pg L.Γ_f6 L.Δ_f6 .leaf .any Tryz.f22 [.ro L.ye culprits, .fn (.func 45) [] [.rc [.ro (.int .i64) in_] 0]] K = L.f6_B culprits in_ (fun r0 => K (.x (.bool r0)) []) := by
  kernel_rfl
theorem L.f6_imp (vs : List V) (K : V → List Ob → Prop) : Imp (L.f6_G vs K) (run L.pg L.Γ_f6 L.Δ_f6 .leaf .any Tryz.f22 (mkL L.f6_ss 0 vs) K) :=
  Imp.of (Eq.trans (b := run L.pg L.Γ_f6 L.Δ_f6 .leaf .any Tryz.f22 [.ro L.ye (gR L.ye (gA vs 0)), .fn (.func 45) [] [.rc [.ro (.int .i64) (gR (.int .i64) ((gC ((gFc (gA vs 1)).getD 0 .any)).getD 0 .any))] 0]] K) (by kernel_rfl) (L.f6_eq (gR L.ye (gA vs 0)) (gR (.int .i64) ((gC ((gFc (gA vs 1)).getD 0 .any)).getD 0 .any)) K)) fun h => (L.f6.out h)
theorem L.f6_ok : SoundFn L.pg 22 L.f6_S :=
  fn_ok (sem := run L.pg L.Γ_f6 L.Δ_f6 .leaf .any Tryz.f22) (ss := L.f6_ss) (G := L.f6_G) (run_ok L.Γ_f6_ok L.Δ_f6_ok Tryz.func22 (ann := .leaf) (annOk_leaf _)) L.f6_imp
def L.Γ_b0 : Ctx := ctxA L.Γ_f6 22 L.f6_ss L.f6_G
theorem L.Γ_b0_ok : SoundG L.pg L.Γ_b0 := ctxA_ok L.Γ_f6_ok L.f6_ok
def L.Δ_b0 : CtxO := L.Δ_f6
theorem L.Δ_b0_ok : SoundGO L.pg L.Δ_b0 := L.Δ_f6_ok
def L.b0_L1_b (to1 : Int) (l6 : L.T2) (i_ : Int) (m11 : (List Int)) (state : L.T11) (m5 : (List Int)) (self : Int → (List Int) → L.T11 → (List Int) → Prop) (Kx0 : (List Int) → L.T11 → (List Int) → Prop) : Prop :=
  (bif (decide (i_ < to1)) then (inB i_ l6.length) ∧ (L.b1 (l6.getD i_.toNat []) state (fun r1 r2 r3 => ((inB i_ m11.length) ∧ (bif ((r2 == 0) && ((r3 == 0) && true)) then ((fits (m5.length + ([i_] : List Int).length)) ∧ self (i64 (i_ + 1)) (m11.set i_.toNat r2) r1 (m5 ++ ([i_] : List Int))) ∧ ((fits (m5.length + ([i_] : List Int).length)) ∧ self (i64 (i_ + 1)) (m11.set i_.toNat r2) r1 (m5 ++ ([i_] : List Int))) ∧ (fits (m5.length + ([i_] : List Int).length)) ∧ self (i64 (i_ + 1)) (m11.set i_.toNat r2) r1 (m5 ++ ([i_] : List Int)) else self (i64 (i_ + 1)) (m11.set i_.toNat r2) state m5)) ∧ (inB i_ m11.length) ∧ (bif ((r2 == 0) && ((r3 == 0) && true)) then ((fits (m5.length + ([i_] : List Int).length)) ∧ self (i64 (i_ + 1)) (m11.set i_.toNat r2) r1 (m5 ++ ([i_] : List Int))) ∧ ((fits (m5.length + ([i_] : List Int).length)) ∧ self (i64 (i_ + 1)) (m11.set i_.toNat r2) r1 (m5 ++ ([i_] : List Int))) ∧ (fits (m5.length + ([i_] : List Int).length)) ∧ self (i64 (i_ + 1)) (m11.set i_.toNat r2) r1 (m5 ++ ([i_] : List Int)) else self (i64 (i_ + 1)) (m11.set i_.toNat r2) state m5))) ∧ ((L.b1 (l6.getD i_.toNat []) state (fun r4 r5 r6 => (inB i_ m11.length) ∧ (bif ((r5 == 0) && ((r6 == 0) && true)) then ((fits (m5.length + ([i_] : List Int).length)) ∧ self (i64 (i_ + 1)) (m11.set i_.toNat r5) r4 (m5 ++ ([i_] : List Int))) ∧ ((fits (m5.length + ([i_] : List Int).length)) ∧ self (i64 (i_ + 1)) (m11.set i_.toNat r5) r4 (m5 ++ ([i_] : List Int))) ∧ (fits (m5.length + ([i_] : List Int).length)) ∧ self (i64 (i_ + 1)) (m11.set i_.toNat r5) r4 (m5 ++ ([i_] : List Int)) else self (i64 (i_ + 1)) (m11.set i_.toNat r5) state m5))) ∧ L.b1 (l6.getD i_.toNat []) state (fun r7 r8 r9 => (inB i_ m11.length) ∧ (bif ((r8 == 0) && ((r9 == 0) && true)) then ((fits (m5.length + ([i_] : List Int).length)) ∧ self (i64 (i_ + 1)) (m11.set i_.toNat r8) r7 (m5 ++ ([i_] : List Int))) ∧ ((fits (m5.length + ([i_] : List Int).length)) ∧ self (i64 (i_ + 1)) (m11.set i_.toNat r8) r7 (m5 ++ ([i_] : List Int))) ∧ (fits (m5.length + ([i_] : List Int).length)) ∧ self (i64 (i_ + 1)) (m11.set i_.toNat r8) r7 (m5 ++ ([i_] : List Int)) else self (i64 (i_ + 1)) (m11.set i_.toNat r8) state m5))) ∧ (L.b1 (l6.getD i_.toNat []) state (fun r10 r11 r12 => (inB i_ m11.length) ∧ (bif ((r11 == 0) && ((r12 == 0) && true)) then ((fits (m5.length + ([i_] : List Int).length)) ∧ self (i64 (i_ + 1)) (m11.set i_.toNat r11) r10 (m5 ++ ([i_] : List Int))) ∧ ((fits (m5.length + ([i_] : List Int).length)) ∧ self (i64 (i_ + 1)) (m11.set i_.toNat r11) r10 (m5 ++ ([i_] : List Int))) ∧ (fits (m5.length + ([i_] : List Int).length)) ∧ self (i64 (i_ + 1)) (m11.set i_.toNat r11) r10 (m5 ++ ([i_] : List Int)) else self (i64 (i_ + 1)) (m11.set i_.toNat r11) state m5))) ∧ L.b1 (l6.getD i_.toNat []) state (fun r13 r14 r15 => (inB i_ m11.length) ∧ (bif ((r14 == 0) && ((r15 == 0) && true)) then ((fits (m5.length + ([i_] : List Int).length)) ∧ self (i64 (i_ + 1)) (m11.set i_.toNat r14) r13 (m5 ++ ([i_] : List Int))) ∧ ((fits (m5.length + ([i_] : List Int).length)) ∧ self (i64 (i_ + 1)) (m11.set i_.toNat r14) r13 (m5 ++ ([i_] : List Int))) ∧ (fits (m5.length + ([i_] : List Int).length)) ∧ self (i64 (i_ + 1)) (m11.set i_.toNat r14) r13 (m5 ++ ([i_] : List Int)) else self (i64 (i_ + 1)) (m11.set i_.toNat r14) state m5)) else Kx0 m11 state m5)
def L.b0_L1_R (to1 : Int) (l6 : L.T2) : Nat → Int → (List Int) → L.T11 → (List Int) → ((List Int) → L.T11 → (List Int) → Prop) → Prop
  | 0, _, _, _, _, _ => False
  | fu + 1, i_, m11, state, m5, Kx0 => L.b0_L1_b to1 l6 i_ m11 state m5 (fun i_ m11 state m5 => L.b0_L1_R to1 l6 fu i_ m11 state m5 Kx0) Kx0
structure L.b0_L1 (to1 : Int) (l6 : L.T2) (i_ : Int) (m11 : (List Int)) (state : L.T11) (m5 : (List Int)) (Kx0 : (List Int) → L.T11 → (List Int) → Prop) : Prop where
  out : ∃ fu, L.b0_L1_R to1 l6 fu i_ m11 state m5 Kx0
def L.b0_L1_d : LoopD := { base := 5, vecs := [], flds := [(4, 0, .sl (.int .i64))], keep := [0, 1, 2, 6, 7, 8], out := [0, 1, 2, 6, 7], rets := [], rv := [], rbase := 2 }
def L.b0_L1_ss : List Sh := [.cl 0 0, .int .i64, .int .i64, .cl 2 0, .cl 4 0, .int .i64]
def L.b0_L1_os : List OSh := [.cells [.ro L.yc, .ro L.T0, .ro L.ye, .ro (.int .i64), .vec 1, .int .i64], .vec (.int .i64) true, .cells [.ro L.yc], .dead, .cells [.vec 5], .vec (.int .i64) true]
def L.b0_B (from_ : Int) (to : Int) (l : L.T11) (l1 : L.T2) (l2 : L.yi) (l3 : (List Int)) (l4 : Int) (m1 : (List Int)) (rc : Int → Int → L.T11 → L.T2 → L.yi → (List Int) → Int → (List Int) → (L.T11 → L.T2 → L.yi → (List Int) → Int → (List Int) → Prop) → Prop) (K : L.T11 → L.T2 → L.yi → (List Int) → Int → (List Int) → Prop) : Prop :=
  L.e3 l3 (fun r => L.b0_L1 to l1 from_ m1 l r (fun m state m2 => (bif ((m2.length : Int) == (l3.length : Int)) then K l l1 l2 l3 l4 m else L.f6 l2 m2 (fun r1 => (bif (!r1) then (K state l1 l2 m2 (i64 (l4 + 1)) m) ∧ K state l1 l2 m2 (i64 (l4 + 1)) m else (bif ((i64 (to - from_)) == 1) then (inB from_ m.length) ∧ K l l1 l2 l3 (i64 (l4 + 1)) (m.set from_.toNat 11) else ((2 : Int) ≠ 0) ∧ rc from_ (i64 (from_ + (i64 ((i64 (to - from_)).tdiv 2)))) l l1 l2 l3 (i64 (l4 + 1)) m (fun l5 l6 l7 l8 l9 m3 => rc (i64 (from_ + (i64 ((i64 (to - from_)).tdiv 2)))) to l5 l6 l7 l8 l9 m3 (fun l10 l11 l12 l13 l14 m4 => K l10 l11 l12 l13 l14 m4))))))))
def L.b0_R : Nat → Int → Int → L.T11 → L.T2 → L.yi → (List Int) → Int → (List Int) → (L.T11 → L.T2 → L.yi → (List Int) → Int → (List Int) → Prop) → Prop
  | 0, _, _, _, _, _, _, _, _, _ => False
  | fu + 1, from_, to, l, l1, l2, l3, l4, m1, K => L.b0_B from_ to l l1 l2 l3 l4 m1 (L.b0_R fu) K
structure L.b0 (from_ : Int) (to : Int) (l : L.T11) (l1 : L.T2) (l2 : L.yi) (l3 : (List Int)) (l4 : Int) (m1 : (List Int)) (K : L.T11 → L.T2 → L.yi → (List Int) → Int → (List Int) → Prop) : Prop where
  out : ∃ fu, L.b0_R fu from_ to l l1 l2 l3 l4 m1 K
def L.b0_ss : List Sh := [.cl 0 0, .int .i64, .int .i64]
def L.b0_os : List OSh := [.cells [.ro L.yc, .ro L.T0, .ro L.ye, .ro (.int .i64), .vec 1, .int .i64], .vec (.int .i64) true]
def L.b0_G (vs : List V) (st : List Ob) (K : V → List Ob → Prop) : Prop := L.b0 (gI (gA vs 1)) (gI (gA vs 2)) (gR L.yc ((oC (gD st 0)).getD 0 .any)) (gR L.T0 ((oC (gD st 0)).getD 1 .any)) (gR L.ye ((oC (gD st 0)).getD 2 .any)) (gR (.int .i64) ((oC (gD st 0)).getD 3 .any)) (cI st 0 5) (oX (.int .i64) (gD st 1)) (fun r0 r1 r2 r3 r4 r5 => K (.tup []) [.cells [.ro L.yc r0, .ro L.T0 r1, .ro L.ye r2, .ro (.int .i64) r3, .vec 1, .xi r4], .vec (.int .i64) 0 r5])
def L.b0_S : SemO := fun args st K => argO L.b0_ss L.b0_os args st fun a s => L.b0_G a s K
def L.b0_GR (fu_ : Nat) (vs : List V) (st : List Ob) (K : V → List Ob → Prop) : Prop := L.b0_R fu_ (gI (gA vs 1)) (gI (gA vs 2)) (gR L.yc ((oC (gD st 0)).getD 0 .any)) (gR L.T0 ((oC (gD st 0)).getD 1 .any)) (gR L.ye ((oC (gD st 0)).getD 2 .any)) (gR (.int .i64) ((oC (gD st 0)).getD 3 .any)) (cI st 0 5) (oX (.int .i64) (gD st 1)) (fun r0 r1 r2 r3 r4 r5 => K (.tup []) [.cells [.ro L.yc r0, .ro L.T0 r1, .ro L.ye r2, .ro (.int .i64) r3, .vec 1, .xi r4], .vec (.int .i64) 0 r5])
def L.b0_SR (fu_ : Nat) : SemO := fun args st K => argO L.b0_ss L.b0_os args st fun a s => L.b0_GR fu_ a s K
def L.ΔR_landing_line_process_h52 (fu_ : Nat) : CtxO := ctxE L.Δ_b0 26 [.any, .any, .any] L.b0_ss L.b0_os (L.b0_GR fu_)
def L.b0_L1_G (fu_ : Nat) (vs : List V) (st : List Ob) (K : Ex → St) : Prop := L.b0_L1 (gI (gA vs 2)) (gR L.T0 ((oC (gD st 0)).getD 1 .any)) (gI (gA vs 5)) (oX (.int .i64) (gD st 1)) (gR L.yc ((oC (gD st 2)).getD 0 .any)) (oX (.int .i64) (gD st 5)) (fun q0_ q1_ q2_ => K (.exit 0) (bld [0, 1, 2, 6, 7] [.cl 0 0, .xi (gI (gA vs 1)), .xi (gI (gA vs 2)), .cl 2 0, .cl 4 0] 0 109) [.cells [.ro L.yc (gR L.yc ((oC (gD st 0)).getD 0 .any)), .ro L.T0 (gR L.T0 ((oC (gD st 0)).getD 1 .any)), .ro L.ye (gR L.ye ((oC (gD st 0)).getD 2 .any)), .ro (.int .i64) (gR (.int .i64) ((oC (gD st 0)).getD 3 .any)), .vec 1, .xi (cI st 0 5)], .vec (.int .i64) 0 q0_, .cells [.ro L.yc q1_], .dead, .cells [.vec 5], .vec (.int .i64) 0 q2_])
def L.b0_L1_F (fu_ : Nat) (vs : List V) (st : List Ob) (K : Ex → St) : Prop := fitF L.b0_L1_ss L.b0_L1_os vs st (L.b0_L1_G fu_ vs st K)
theorem L.b0_L1_eq (fu_ : Nat) (from_1 : Int) (to1 : Int) (l5 : L.T11) (l6 : L.T2) (l7 : L.yi) (l8 : (List Int)) (l9 : Int) (K : Ex → St) : ∀ (fu : Nat) (i_ : Int) (m11 : (List Int)) (state : L.T11) (m5 : (List Int)), L.b0_L1_R to1 l6 fu i_ m11 state m5 (fun q0_ q1_ q2_ => K (.exit 0) (bld [0, 1, 2, 6, 7] [.cl 0 0, .xi from_1, .xi to1, .cl 2 0, .cl 4 0] 0 109) [.cells [.ro L.yc l5, .ro L.T0 l6, .ro L.ye l7, .ro (.int .i64) l8, .vec 1, .xi l9], .vec (.int .i64) 0 q0_, .cells [.ro L.yc q1_], .dead, .cells [.vec 5], .vec (.int .i64) 0 q2_]) = iterL (stepL (exec L.pg (CC L.pg L.Γ_b0 (L.ΔR_landing_line_process_h52 fu_)) (drawD L.pg L.Γ_b0 (L.ΔR_landing_line_process_h52 fu_)) .leaf (sub [true, true, false, true, false, false] (codeOf Tryz.f26))) 5 L.b0_L1_d K) fu (bld L.b0_L1_d.keep [.cl 0 0, .xi from_1, .xi to1, .cl 2 0, .cl 4 0, .xi i_] 0 109) [.cells [.ro L.yc l5, .ro L.T0 l6, .ro L.ye l7, .ro (.int .i64) l8, .vec 1, .xi l9], .vec (.int .i64) 0 m11, .cells [.ro L.yc state], .dead, .cells [.vec 5], .vec (.int .i64) 0 m5] := by
  intro fu
  induction fu with
  | zero => intros; rfl
  | succ fu ih =>
    intro i_ m11 state m5
    have e : (fun i_ m11 state m5 => L.b0_L1_R to1 l6 fu i_ m11 state m5 (fun q0_ q1_ q2_ => K (.exit 0) (bld [0, 1, 2, 6, 7] [.cl 0 0, .xi from_1, .xi to1, .cl 2 0, .cl 4 0] 0 109) [.cells [.ro L.yc l5, .ro L.T0 l6, .ro L.ye l7, .ro (.int .i64) l8, .vec 1, .xi l9], .vec (.int .i64) 0 q0_, .cells [.ro L.yc q1_], .dead, .cells [.vec 5], .vec (.int .i64) 0 q2_])) = fun i_ m11 state m5 => iterL (stepL (exec L.pg (CC L.pg L.Γ_b0 (L.ΔR_landing_line_process_h52 fu_)) (drawD L.pg L.Γ_b0 (L.ΔR_landing_line_process_h52 fu_)) .leaf (sub [true, true, false, true, false, false] (codeOf Tryz.f26))) 5 L.b0_L1_d K) fu (bld L.b0_L1_d.keep [.cl 0 0, .xi from_1, .xi to1, .cl 2 0, .cl 4 0, .xi i_] 0 109) [.cells [.ro L.yc l5, .ro L.T0 l6, .ro L.ye l7, .ro (.int .i64) l8, .vec 1, .xi l9], .vec (.int .i64) 0 m11, .cells [.ro L.yc state], .dead, .cells [.vec 5], .vec (.int .i64) 0 m5] := by
      funext i_ m11 state m5; exact ih i_ m11 state m5
    show L.b0_L1_b to1 l6 i_ m11 state m5 (fun i_ m11 state m5 => L.b0_L1_R to1 l6 fu i_ m11 state m5 (fun q0_ q1_ q2_ => K (.exit 0) (bld [0, 1, 2, 6, 7] [.cl 0 0, .xi from_1, .xi to1, .cl 2 0, .cl 4 0] 0 109) [.cells [.ro L.yc l5, .ro L.T0 l6, .ro L.ye l7, .ro (.int .i64) l8, .vec 1, .xi l9], .vec (.int .i64) 0 q0_, .cells [.ro L.yc q1_], .dead, .cells [.vec 5], .vec (.int .i64) 0 q2_])) (fun q0_ q1_ q2_ => K (.exit 0) (bld [0, 1, 2, 6, 7] [.cl 0 0, .xi from_1, .xi to1, .cl 2 0, .cl 4 0] 0 109) [.cells [.ro L.yc l5, .ro L.T0 l6, .ro L.ye l7, .ro (.int .i64) l8, .vec 1, .xi l9], .vec (.int .i64) 0 q0_, .cells [.ro L.yc q1_], .dead, .cells [.vec 5], .vec (.int .i64) 0 q2_]) = _
    rw [e]
    kernel_rfl
theorem L.b0_L1_imp (fu_ : Nat) (vs : List V) (st : List Ob) (K : Ex → St) (h : L.b0_L1_G fu_ vs st K) : ∃ fu, iterL (stepL (exec L.pg (CC L.pg L.Γ_b0 (L.ΔR_landing_line_process_h52 fu_)) (drawD L.pg L.Γ_b0 (L.ΔR_landing_line_process_h52 fu_)) .leaf (sub [true, true, false, true, false, false] (codeOf Tryz.f26))) 5 L.b0_L1_d K) fu (bld L.b0_L1_d.keep (mkL L.b0_L1_ss 0 vs) 0 109) (mkOs L.b0_L1_os 0 st) :=
  exMap (fun fu h => @Eq.mp _ _ (Eq.trans (L.b0_L1_eq fu_ (gI (gA vs 1)) (gI (gA vs 2)) (gR L.yc ((oC (gD st 0)).getD 0 .any)) (gR L.T0 ((oC (gD st 0)).getD 1 .any)) (gR L.ye ((oC (gD st 0)).getD 2 .any)) (gR (.int .i64) ((oC (gD st 0)).getD 3 .any)) (cI st 0 5) K fu (gI (gA vs 5)) (oX (.int .i64) (gD st 1)) (gR L.yc ((oC (gD st 2)).getD 0 .any)) (oX (.int .i64) (gD st 5))) (by kernel_rfl)) h) (L.b0_L1.out h)
theorem L.b0_L1_ok (fu_ : Nat) : AnnOk L.pg (CC L.pg L.Γ_b0 (L.ΔR_landing_line_process_h52 fu_)) (drawD L.pg L.Γ_b0 (L.ΔR_landing_line_process_h52 fu_)) 2 (.lift L.b0_L1_d 109 (L.b0_L1_F fu_)) (.loop (sub [true, true, false, true, false, false] (codeOf Tryz.f26))) :=
  lift_ok (an := .leaf) (ss := L.b0_L1_ss) (os := L.b0_L1_os) (G := L.b0_L1_G fu_) rfl (Nat.le_of_ble_eq_true rfl) (annOk_leaf _) (L.b0_L1_imp fu_)
theorem L.b0_eq (fu_ : Nat) (from_ : Int) (to : Int) (l : L.T11) (l1 : L.T2) (l2 : L.yi) (l3 : (List Int)) (l4 : Int) (m1 : (List Int)) (K : V → List Ob → Prop) : runH L.pg L.Γ_b0 (L.ΔR_landing_line_process_h52 fu_) (.node .leaf (.node .leaf (.node (.node .leaf (.lift L.b0_L1_d 109 (L.b0_L1_F fu_))) .leaf))) (.tup []) [(0, 3, .ro (.int .i64))] Tryz.f26 false 2 [.cl 0 0, .xi from_, .xi to] [.cells [.ro L.yc l, .ro L.T0 l1, .ro L.ye l2, .ro (.int .i64) l3, .vec 1, .xi l4], .vec (.int .i64) 0 m1] K = L.b0_B from_ to l l1 l2 l3 l4 m1 (L.b0_R fu_) (fun r0 r1 r2 r3 r4 r5 => K (.tup []) [.cells [.ro L.yc r0, .ro L.T0 r1, .ro L.ye r2, .ro (.int .i64) r3, .vec 1, .xi r4], .vec (.int .i64) 0 r5]) := by
  kernel_rfl
theorem L.b0_imp (fu_ : Nat) (vs : List V) (st : List Ob) (K : V → List Ob → Prop) : Imp (L.b0_GR (fu_ + 1) vs st K) (runH L.pg L.Γ_b0 (L.ΔR_landing_line_process_h52 fu_) (.node .leaf (.node .leaf (.node (.node .leaf (.lift L.b0_L1_d 109 (L.b0_L1_F fu_))) .leaf))) (.tup []) [(0, 3, .ro (.int .i64))] Tryz.f26 false 2 (mkL L.b0_ss 0 vs) (mkOs L.b0_os 0 st) K) :=
  Imp.of (Eq.trans (b := runH L.pg L.Γ_b0 (L.ΔR_landing_line_process_h52 fu_) (.node .leaf (.node .leaf (.node (.node .leaf (.lift L.b0_L1_d 109 (L.b0_L1_F fu_))) .leaf))) (.tup []) [(0, 3, .ro (.int .i64))] Tryz.f26 false 2 [.cl 0 0, .xi (gI (gA vs 1)), .xi (gI (gA vs 2))] [.cells [.ro L.yc (gR L.yc ((oC (gD st 0)).getD 0 .any)), .ro L.T0 (gR L.T0 ((oC (gD st 0)).getD 1 .any)), .ro L.ye (gR L.ye ((oC (gD st 0)).getD 2 .any)), .ro (.int .i64) (gR (.int .i64) ((oC (gD st 0)).getD 3 .any)), .vec 1, .xi (cI st 0 5)], .vec (.int .i64) 0 (oX (.int .i64) (gD st 1))] K) (by kernel_rfl) (L.b0_eq fu_ (gI (gA vs 1)) (gI (gA vs 2)) (gR L.yc ((oC (gD st 0)).getD 0 .any)) (gR L.T0 ((oC (gD st 0)).getD 1 .any)) (gR L.ye ((oC (gD st 0)).getD 2 .any)) (gR (.int .i64) ((oC (gD st 0)).getD 3 .any)) (cI st 0 5) (oX (.int .i64) (gD st 1)) K)) fun h => h
theorem L.b0_okR : ∀ fu_, SoundO L.pg 26 (L.b0_SR fu_)
  | 0 => fnO_none fun _ _ _ h => h
  | fu_ + 1 => fnO_ok (sem := runH L.pg L.Γ_b0 (L.ΔR_landing_line_process_h52 fu_) (.node .leaf (.node .leaf (.node (.node .leaf (.lift L.b0_L1_d 109 (L.b0_L1_F fu_))) .leaf))) (.tup []) [(0, 3, .ro (.int .i64))] Tryz.f26 false 2) (ss := L.b0_ss) (os := L.b0_os) (G := L.b0_GR (fu_ + 1)) (runH_ok L.Γ_b0_ok (ctxE_ok L.Δ_b0_ok (L.b0_okR fu_)) Tryz.func26 (ann := (.node .leaf (.node .leaf (.node (.node .leaf (.lift L.b0_L1_d 109 (L.b0_L1_F fu_))) .leaf)))) rfl ⟨(annOk_leaf _), ⟨(annOk_leaf _), ⟨⟨(annOk_leaf _), (L.b0_L1_ok fu_)⟩, (annOk_leaf _)⟩⟩⟩) (L.b0_imp fu_)
theorem L.b0_ok : SoundO L.pg 26 L.b0_S :=
  fnO_ex (GR := L.b0_GR) (G := L.b0_G) L.b0_okR fun _ _ _ h => h.out
def L.Γ_b7 : Ctx := L.Γ_b0
theorem L.Γ_b7_ok : SoundG L.pg L.Γ_b7 := L.Γ_b0_ok
def L.Δ_b7 : CtxO := ctxE L.Δ_b0 26 [.any, .any, .any] L.b0_ss L.b0_os L.b0_G
theorem L.Δ_b7_ok : SoundGO L.pg L.Δ_b7 := ctxE_ok L.Δ_b0_ok L.b0_ok
def L.b7_L1_b (patches1 : L.T2) (size1 : Int) (i_ : Int) (l : L.T11) (l1 : L.T2) (l2 : L.yi) (l3 : (List Int)) (l4 : Int) (m5 : (List Int)) (self : Int → L.T11 → L.T2 → L.yi → (List Int) → Int → (List Int) → Prop) (Kx0 : L.T11 → L.T2 → L.yi → (List Int) → Int → (List Int) → Prop) : Prop :=
  (bif (decide (i_ < (patches1.length : Int))) then L.b0 i_ (amn (i64 (i_ + size1)) (patches1.length : Int)) l l1 l2 l3 l4 m5 (fun l5 l6 l7 l8 l9 m => self (i64 (i_ + size1)) l5 l6 l7 l8 l9 m) else Kx0 l l1 l2 l3 l4 m5)
def L.b7_L1_R (patches1 : L.T2) (size1 : Int) : Nat → Int → L.T11 → L.T2 → L.yi → (List Int) → Int → (List Int) → (L.T11 → L.T2 → L.yi → (List Int) → Int → (List Int) → Prop) → Prop
  | 0, _, _, _, _, _, _, _, _ => False
  | fu + 1, i_, l, l1, l2, l3, l4, m5, Kx0 => L.b7_L1_b patches1 size1 i_ l l1 l2 l3 l4 m5 (fun i_ l l1 l2 l3 l4 m5 => L.b7_L1_R patches1 size1 fu i_ l l1 l2 l3 l4 m5 Kx0) Kx0
structure L.b7_L1 (patches1 : L.T2) (size1 : Int) (i_ : Int) (l : L.T11) (l1 : L.T2) (l2 : L.yi) (l3 : (List Int)) (l4 : Int) (m5 : (List Int)) (Kx0 : L.T11 → L.T2 → L.yi → (List Int) → Int → (List Int) → Prop) : Prop where
  out : ∃ fu, L.b7_L1_R patches1 size1 fu i_ l l1 l2 l3 l4 m5 Kx0
def L.b7_L1_d : LoopD := { base := 7, vecs := [], flds := [(3, 0, .ro L.yc), (3, 3, .ro (.int .i64))], keep := [1, 3, 8, 11, 12, 14], out := [8, 11, 12], rets := [8, 9, 10, 11], rv := [], rbase := 0 }
def L.b7_L1_ss : List Sh := [.ro L.T0, .int .i64, .cl 1 0, .cl 2 0, .cl 3 0, .int .i64]
def L.b7_L1_os : List OSh := [.cells [.ro L.yc], .cells [.nil], .cells [.int .i64, .int .i64], .cells [.ro L.yc, .ro L.T0, .ro L.ye, .ro (.int .i64), .vec 5, .int .i64], .vec L.yc false, .vec (.int .i64) true, .cells [.int .i64, .int .i64]]
def L.b7_L1_G (vs : List V) (st : List Ob) (K : Ex → St) : Prop := L.b7_L1 (gR L.T0 (gA vs 0)) (gI (gA vs 1)) (gI (gA vs 5)) (gR L.yc ((oC (gD st 3)).getD 0 .any)) (gR L.T0 ((oC (gD st 3)).getD 1 .any)) (gR L.ye ((oC (gD st 3)).getD 2 .any)) (gR (.int .i64) ((oC (gD st 3)).getD 3 .any)) (cI st 3 5) (oX (.int .i64) (gD st 5)) (fun q0_ q1_ q2_ q3_ q4_ q5_ => K (.exit 0) (bld [8, 11, 12] [.cl 1 0, .cl 2 0, .cl 3 0] 0 65) [.cells [.ro L.yc (gR L.yc ((oC (gD st 0)).getD 0 .any))], .cells [.x (.slice none 0 0)], .cells [.xi (cI st 2 0), .xi (cI st 2 1)], .cells [.ro L.yc q0_, .ro L.T0 q1_, .ro L.ye q2_, .ro (.int .i64) q3_, .vec 5, .xi q4_], .vec L.yc (oF (gD st 4)) (oX L.yc (gD st 4)), .vec (.int .i64) 0 q5_, .cells [.xi (cI st 6 0), .xi (cI st 6 1)]])
def L.b7_L1_F (vs : List V) (st : List Ob) (K : Ex → St) : Prop := fitF L.b7_L1_ss L.b7_L1_os vs st (L.b7_L1_G vs st K)
theorem L.b7_L1_eq (patches1 : L.T2) (size1 : Int) (m0 : L.T11) (m2 : Int) (m21 : Int) (m4 : Nat) (m41 : L.T11) (m6 : Int) (m61 : Int) (K : Ex → St) : ∀ (fu : Nat) (i_ : Int) (l : L.T11) (l1 : L.T2) (l2 : L.yi) (l3 : (List Int)) (l4 : Int) (m5 : (List Int)), L.b7_L1_R patches1 size1 fu i_ l l1 l2 l3 l4 m5 (fun q0_ q1_ q2_ q3_ q4_ q5_ => K (.exit 0) (bld [8, 11, 12] [.cl 1 0, .cl 2 0, .cl 3 0] 0 65) [.cells [.ro L.yc m0], .cells [.x (.slice none 0 0)], .cells [.xi m2, .xi m21], .cells [.ro L.yc q0_, .ro L.T0 q1_, .ro L.ye q2_, .ro (.int .i64) q3_, .vec 5, .xi q4_], .vec L.yc m4 m41, .vec (.int .i64) 0 q5_, .cells [.xi m6, .xi m61]]) = iterL (stepL (exec L.pg (CC L.pg L.Γ_b7 L.Δ_b7) (drawD L.pg L.Γ_b7 L.Δ_b7) .leaf (sub [true, true, true, true, false, true, false, false] (codeOf Tryz.f14))) 7 L.b7_L1_d K) fu (bld L.b7_L1_d.keep [.ro L.T0 patches1, .xi size1, .cl 1 0, .cl 2 0, .cl 3 0, .xi i_] 0 65) [.cells [.ro L.yc m0], .cells [.x (.slice none 0 0)], .cells [.xi m2, .xi m21], .cells [.ro L.yc l, .ro L.T0 l1, .ro L.ye l2, .ro (.int .i64) l3, .vec 5, .xi l4], .vec L.yc m4 m41, .vec (.int .i64) 0 m5, .cells [.xi m6, .xi m61]] := by
  intro fu
  induction fu with
  | zero => intros; rfl
  | succ fu ih =>
    intro i_ l l1 l2 l3 l4 m5
    have e : (fun i_ l l1 l2 l3 l4 m5 => L.b7_L1_R patches1 size1 fu i_ l l1 l2 l3 l4 m5 (fun q0_ q1_ q2_ q3_ q4_ q5_ => K (.exit 0) (bld [8, 11, 12] [.cl 1 0, .cl 2 0, .cl 3 0] 0 65) [.cells [.ro L.yc m0], .cells [.x (.slice none 0 0)], .cells [.xi m2, .xi m21], .cells [.ro L.yc q0_, .ro L.T0 q1_, .ro L.ye q2_, .ro (.int .i64) q3_, .vec 5, .xi q4_], .vec L.yc m4 m41, .vec (.int .i64) 0 q5_, .cells [.xi m6, .xi m61]])) = fun i_ l l1 l2 l3 l4 m5 => iterL (stepL (exec L.pg (CC L.pg L.Γ_b7 L.Δ_b7) (drawD L.pg L.Γ_b7 L.Δ_b7) .leaf (sub [true, true, true, true, false, true, false, false] (codeOf Tryz.f14))) 7 L.b7_L1_d K) fu (bld L.b7_L1_d.keep [.ro L.T0 patches1, .xi size1, .cl 1 0, .cl 2 0, .cl 3 0, .xi i_] 0 65) [.cells [.ro L.yc m0], .cells [.x (.slice none 0 0)], .cells [.xi m2, .xi m21], .cells [.ro L.yc l, .ro L.T0 l1, .ro L.ye l2, .ro (.int .i64) l3, .vec 5, .xi l4], .vec L.yc m4 m41, .vec (.int .i64) 0 m5, .cells [.xi m6, .xi m61]] := by
      funext i_ l l1 l2 l3 l4 m5; exact ih i_ l l1 l2 l3 l4 m5
    show L.b7_L1_b patches1 size1 i_ l l1 l2 l3 l4 m5 (fun i_ l l1 l2 l3 l4 m5 => L.b7_L1_R patches1 size1 fu i_ l l1 l2 l3 l4 m5 (fun q0_ q1_ q2_ q3_ q4_ q5_ => K (.exit 0) (bld [8, 11, 12] [.cl 1 0, .cl 2 0, .cl 3 0] 0 65) [.cells [.ro L.yc m0], .cells [.x (.slice none 0 0)], .cells [.xi m2, .xi m21], .cells [.ro L.yc q0_, .ro L.T0 q1_, .ro L.ye q2_, .ro (.int .i64) q3_, .vec 5, .xi q4_], .vec L.yc m4 m41, .vec (.int .i64) 0 q5_, .cells [.xi m6, .xi m61]])) (fun q0_ q1_ q2_ q3_ q4_ q5_ => K (.exit 0) (bld [8, 11, 12] [.cl 1 0, .cl 2 0, .cl 3 0] 0 65) [.cells [.ro L.yc m0], .cells [.x (.slice none 0 0)], .cells [.xi m2, .xi m21], .cells [.ro L.yc q0_, .ro L.T0 q1_, .ro L.ye q2_, .ro (.int .i64) q3_, .vec 5, .xi q4_], .vec L.yc m4 m41, .vec (.int .i64) 0 q5_, .cells [.xi m6, .xi m61]]) = _
    rw [e]
    kernel_rfl
theorem L.b7_L1_imp (vs : List V) (st : List Ob) (K : Ex → St) (h : L.b7_L1_G vs st K) : ∃ fu, iterL (stepL (exec L.pg (CC L.pg L.Γ_b7 L.Δ_b7) (drawD L.pg L.Γ_b7 L.Δ_b7) .leaf (sub [true, true, true, true, false, true, false, false] (codeOf Tryz.f14))) 7 L.b7_L1_d K) fu (bld L.b7_L1_d.keep (mkL L.b7_L1_ss 0 vs) 0 65) (mkOs L.b7_L1_os 0 st) :=
  exMap (fun fu h => @Eq.mp _ _ (Eq.trans (L.b7_L1_eq (gR L.T0 (gA vs 0)) (gI (gA vs 1)) (gR L.yc ((oC (gD st 0)).getD 0 .any)) (cI st 2 0) (cI st 2 1) (oF (gD st 4)) (oX L.yc (gD st 4)) (cI st 6 0) (cI st 6 1) K fu (gI (gA vs 5)) (gR L.yc ((oC (gD st 3)).getD 0 .any)) (gR L.T0 ((oC (gD st 3)).getD 1 .any)) (gR L.ye ((oC (gD st 3)).getD 2 .any)) (gR (.int .i64) ((oC (gD st 3)).getD 3 .any)) (cI st 3 5) (oX (.int .i64) (gD st 5))) (by kernel_rfl)) h) (L.b7_L1.out h)
theorem L.b7_L1_ok : AnnOk L.pg (CC L.pg L.Γ_b7 L.Δ_b7) (drawD L.pg L.Γ_b7 L.Δ_b7) 0 (.lift L.b7_L1_d 65 L.b7_L1_F) (.loop (sub [true, true, true, true, false, true, false, false] (codeOf Tryz.f14))) :=
  lift_ok (an := .leaf) (ss := L.b7_L1_ss) (os := L.b7_L1_os) (G := L.b7_L1_G) rfl (Nat.le_of_ble_eq_true rfl) (annOk_leaf _) (L.b7_L1_imp)
def L.b7_B (base : L.T11) (patches : L.T2) (culprits : L.yi) (size : Int) (K : Int → Int → Int → L.T11 → (List Int) → Prop) : Prop :=
  L.b6 base patches culprits (fun r r1 => (bif (!((r == 0) && ((r1 == 0) && true))) then (K 0 r r1 ([] : List (ByteArray × L.yf)) ([] : List Int)) ∧ K 0 r r1 ([] : List (ByteArray × L.yf)) ([] : List Int) else (bif (bif (decide (size < 1)) then true else (decide (size > 12))) then K 0 3 (-4) ([] : List (ByteArray × L.yf)) ([] : List Int) else False))) (fun r2 r3 r4 r5 r6 r7 r8 => (bif (!((r2 == 0) && ((r3 == 0) && true))) then (K 0 r2 r3 ([] : List (ByteArray × L.yf)) ([] : List Int)) ∧ K 0 r2 r3 ([] : List (ByteArray × L.yf)) ([] : List Int) else (bif (bif (decide (size < 1)) then true else (decide (size > 12))) then K 0 3 (-4) ([] : List (ByteArray × L.yf)) ([] : List Int) else L.b7_L1 patches size 0 r7 r4 r5 ([] : List Int) r6 r8 (fun l l1 l2 l3 l4 m => (L.a9 l (fun r9 => ((K l4 0 0 r9 m) ∧ K l4 0 0 r9 m) ∧ ((K l4 0 0 r9 m) ∧ K l4 0 0 r9 m) ∧ (K l4 0 0 r9 m) ∧ K l4 0 0 r9 m)) ∧ ((L.a9 l (fun r10 => (K l4 0 0 r10 m) ∧ K l4 0 0 r10 m)) ∧ L.a9 l (fun r11 => K l4 0 0 r11 m)) ∧ (L.a9 l (fun r12 => (K l4 0 0 r12 m) ∧ K l4 0 0 r12 m)) ∧ L.a9 l (fun r13 => K l4 0 0 r13 m)))))
structure L.b7 (base : L.T11) (patches : L.T2) (culprits : L.yi) (size : Int) (K : Int → Int → Int → L.T11 → (List Int) → Prop) : Prop where
  out : L.b7_B base patches culprits size K
def L.b7_ss : List Sh := [.agg [.ro L.yc], .ro L.T0, .ro L.ye, .int .i64]
def L.b7_os : List OSh := []
def L.b7_G (vs : List V) (st : List Ob) (K : V → List Ob → Prop) : Prop := L.b7 (gR L.yc ((gC (gA vs 0)).getD 0 .any)) (gR L.T0 (gA vs 1)) (gR L.ye (gA vs 2)) (gI (gA vs 3)) (fun r0 r1 r2 r3 r4 => K (.tup [.agg [.vec 0], .vec 1, .xi r0, .agg [.xi r1, .xi r2]]) [.vec L.yc 0 r3, .vec (.int .i64) 0 r4])
def L.b7_S : SemO := fun args st K => argO L.b7_ss L.b7_os args st fun a s => L.b7_G a s K
theorem L.b7_eq (base : L.T11) (patches : L.T2) (culprits : L.yi) (size : Int) (K : V → List Ob → Prop) : runH L.pg L.Γ_b7 L.Δ_b7 (.node .leaf (.node .leaf (.node .leaf (.node .leaf (.node (.node .leaf (.lift L.b7_L1_d 65 L.b7_L1_F)) .leaf))))) (.tup [(.agg [(.sl L.yc)]), (.sl (.int .i64)), .any, (.agg [.any, .any])]) [] Tryz.f14 false 0 [.agg [.ro L.yc base], .ro L.T0 patches, .ro L.ye culprits, .xi size] [] K = L.b7_B base patches culprits size (fun r0 r1 r2 r3 r4 => K (.tup [.agg [.vec 0], .vec 1, .xi r0, .agg [.xi r1, .xi r2]]) [.vec L.yc 0 r3, .vec (.int .i64) 0 r4]) := by
  kernel_rfl
theorem L.b7_imp (vs : List V) (st : List Ob) (K : V → List Ob → Prop) : Imp (L.b7_G vs st K) (runH L.pg L.Γ_b7 L.Δ_b7 (.node .leaf (.node .leaf (.node .leaf (.node .leaf (.node (.node .leaf (.lift L.b7_L1_d 65 L.b7_L1_F)) .leaf))))) (.tup [(.agg [(.sl L.yc)]), (.sl (.int .i64)), .any, (.agg [.any, .any])]) [] Tryz.f14 false 0 (mkL L.b7_ss 0 vs) (mkOs L.b7_os 0 st) K) :=
  Imp.of (Eq.trans (b := runH L.pg L.Γ_b7 L.Δ_b7 (.node .leaf (.node .leaf (.node .leaf (.node .leaf (.node (.node .leaf (.lift L.b7_L1_d 65 L.b7_L1_F)) .leaf))))) (.tup [(.agg [(.sl L.yc)]), (.sl (.int .i64)), .any, (.agg [.any, .any])]) [] Tryz.f14 false 0 [.agg [.ro L.yc (gR L.yc ((gC (gA vs 0)).getD 0 .any))], .ro L.T0 (gR L.T0 (gA vs 1)), .ro L.ye (gR L.ye (gA vs 2)), .xi (gI (gA vs 3))] [] K) (by kernel_rfl) (L.b7_eq (gR L.yc ((gC (gA vs 0)).getD 0 .any)) (gR L.T0 (gA vs 1)) (gR L.ye (gA vs 2)) (gI (gA vs 3)) K)) fun h => (L.b7.out h)
theorem L.b7_ok : SoundO L.pg 14 L.b7_S :=
  fnO_ok (sem := runH L.pg L.Γ_b7 L.Δ_b7 (.node .leaf (.node .leaf (.node .leaf (.node .leaf (.node (.node .leaf (.lift L.b7_L1_d 65 L.b7_L1_F)) .leaf))))) (.tup [(.agg [(.sl L.yc)]), (.sl (.int .i64)), .any, (.agg [.any, .any])]) [] Tryz.f14 false 0) (ss := L.b7_ss) (os := L.b7_os) (G := L.b7_G) (runH_ok L.Γ_b7_ok L.Δ_b7_ok Tryz.func14 (ann := (.node .leaf (.node .leaf (.node .leaf (.node .leaf (.node (.node .leaf (.lift L.b7_L1_d 65 L.b7_L1_F)) .leaf)))))) rfl ⟨(annOk_leaf _), ⟨(annOk_leaf _), ⟨(annOk_leaf _), ⟨(annOk_leaf _), ⟨⟨(annOk_leaf _), L.b7_L1_ok⟩, (annOk_leaf _)⟩⟩⟩⟩⟩) L.b7_imp
def L.Γ_e9 : Ctx := L.Γ_b7
theorem L.Γ_e9_ok : SoundG L.pg L.Γ_e9 := L.Γ_b7_ok
def L.Δ_e9 : CtxO := ctxE L.Δ_b7 14 [.agg [.ro L.yc], .ro L.T0, .ro L.ye, .any] L.b7_ss L.b7_os L.b7_G
theorem L.Δ_e9_ok : SoundGO L.pg L.Δ_e9 := ctxE_ok L.Δ_b7_ok L.b7_ok
def L.e9_B (base : L.T11) (patches : L.T2) (culprits : L.yi) (K : Int → Int → L.T11 → (List Int) → Prop) : Prop :=
  L.b7 base patches culprits 1 (fun r r1 r2 r3 r4 => (K r1 r2 r3 r4) ∧ K r1 r2 r3 r4)
structure L.e9 (base : L.T11) (patches : L.T2) (culprits : L.yi) (K : Int → Int → L.T11 → (List Int) → Prop) : Prop where
  out : L.e9_B base patches culprits K
def L.e9_ss : List Sh := [.agg [.ro L.yc], .ro L.T0, .ro L.ye]
def L.e9_os : List OSh := []
def L.e9_G (vs : List V) (st : List Ob) (K : V → List Ob → Prop) : Prop := L.e9 (gR L.yc ((gC (gA vs 0)).getD 0 .any)) (gR L.T0 (gA vs 1)) (gR L.ye (gA vs 2)) (fun r0 r1 r2 r3 => K (.tup [.agg [.vec 0], .vec 1, .agg [.xi r0, .xi r1]]) [.vec L.yc 0 r2, .vec (.int .i64) 0 r3])
def L.e9_S : SemO := fun args st K => argO L.e9_ss L.e9_os args st fun a s => L.e9_G a s K
theorem L.e9_eq (base : L.T11) (patches : L.T2) (culprits : L.yi) (K : V → List Ob → Prop) : runH L.pg L.Γ_e9 L.Δ_e9 .leaf (.tup [(.agg [(.sl L.yc)]), (.sl (.int .i64)), (.agg [.any, .any])]) [] Tryz.f6 false 0 [.agg [.ro L.yc base], .ro L.T0 patches, .ro L.ye culprits] [] K = L.e9_B base patches culprits (fun r0 r1 r2 r3 => K (.tup [.agg [.vec 0], .vec 1, .agg [.xi r0, .xi r1]]) [.vec L.yc 0 r2, .vec (.int .i64) 0 r3]) := by
  kernel_rfl
theorem L.e9_imp (vs : List V) (st : List Ob) (K : V → List Ob → Prop) : Imp (L.e9_G vs st K) (runH L.pg L.Γ_e9 L.Δ_e9 .leaf (.tup [(.agg [(.sl L.yc)]), (.sl (.int .i64)), (.agg [.any, .any])]) [] Tryz.f6 false 0 (mkL L.e9_ss 0 vs) (mkOs L.e9_os 0 st) K) :=
  Imp.of (Eq.trans (b := runH L.pg L.Γ_e9 L.Δ_e9 .leaf (.tup [(.agg [(.sl L.yc)]), (.sl (.int .i64)), (.agg [.any, .any])]) [] Tryz.f6 false 0 [.agg [.ro L.yc (gR L.yc ((gC (gA vs 0)).getD 0 .any))], .ro L.T0 (gR L.T0 (gA vs 1)), .ro L.ye (gR L.ye (gA vs 2))] [] K) (by kernel_rfl) (L.e9_eq (gR L.yc ((gC (gA vs 0)).getD 0 .any)) (gR L.T0 (gA vs 1)) (gR L.ye (gA vs 2)) K)) fun h => (L.e9.out h)
theorem L.e9_ok : SoundO L.pg 6 L.e9_S :=
  fnO_ok (sem := runH L.pg L.Γ_e9 L.Δ_e9 .leaf (.tup [(.agg [(.sl L.yc)]), (.sl (.int .i64)), (.agg [.any, .any])]) [] Tryz.f6 false 0) (ss := L.e9_ss) (os := L.e9_os) (G := L.e9_G) (runH_ok L.Γ_e9_ok L.Δ_e9_ok Tryz.func6 (ann := .leaf) rfl (annOk_leaf _)) L.e9_imp
def L.Γ_d6 : Ctx := L.Γ_e9
theorem L.Γ_d6_ok : SoundG L.pg L.Γ_d6 := L.Γ_e9_ok
def L.Δ_d6 : CtxO := ctxE L.Δ_e9 6 [.agg [.ro L.yc], .ro L.T0, .ro L.ye] L.e9_ss L.e9_os L.e9_G
theorem L.Δ_d6_ok : SoundGO L.pg L.Δ_d6 := ctxE_ok L.Δ_e9_ok L.e9_ok
def L.d6_L1_b (l1 : (List Int)) (n1 : Int) (i_ : Int) (self : Int → Prop) (Kx0 : Prop) (Kr : Bool → Prop) : Prop :=
  (bif (decide (i_ < (l1.length : Int))) then (inB i_ l1.length) ∧ (bif ((l1.getD i_.toNat 0) == n1) then Kr true else self (i64 (i_ + 1))) else Kx0)
def L.d6_L1_R (l1 : (List Int)) (n1 : Int) : Nat → Int → (Prop) → (Bool → Prop) → Prop
  | 0, _, _, _ => False
  | fu + 1, i_, Kx0, Kr => L.d6_L1_b l1 n1 i_ (fun i_ => L.d6_L1_R l1 n1 fu i_ Kx0 Kr) Kx0 Kr
structure L.d6_L1 (l1 : (List Int)) (n1 : Int) (i_ : Int) (Kx0 : Prop) (Kr : Bool → Prop) : Prop where
  out : ∃ fu, L.d6_L1_R l1 n1 fu i_ Kx0 Kr
def L.d6_L1_d : LoopD := { base := 0, vecs := [], flds := [], keep := [0, 1, 5], out := [], rets := [4], rv := [], rbase := 0 }
def L.d6_L1_ss : List Sh := [.ro (.int .i64), .int .i64, .int .i64]
def L.d6_L1_os : List OSh := []
def L.d6_L1_G (vs : List V) (st : List Ob) (K : Ex → St) : Prop := L.d6_L1 (gR (.int .i64) (gA vs 0)) (gI (gA vs 1)) (gI (gA vs 2)) (K (.exit 0) (bld [] [] 0 18) []) (fun q0_ => K .ret (bld [4] [.x (.bool q0_)] 0 18) [])
def L.d6_L1_F (vs : List V) (st : List Ob) (K : Ex → St) : Prop := fitF L.d6_L1_ss L.d6_L1_os vs st (L.d6_L1_G vs st K)
theorem L.d6_L1_eq (l1 : (List Int)) (n1 : Int) (K : Ex → St) : ∀ (fu : Nat) (i_ : Int), L.d6_L1_R l1 n1 fu i_ (K (.exit 0) (bld [] [] 0 18) []) (fun q0_ => K .ret (bld [4] [.x (.bool q0_)] 0 18) []) = iterL (stepL (exec L.pg (CC L.pg L.Γ_d6 L.Δ_d6) (drawD L.pg L.Γ_d6 L.Δ_d6) .leaf (sub [true, false, true, false, false] (codeOf Tryz.f7))) 0 L.d6_L1_d K) fu (bld L.d6_L1_d.keep [.ro (.int .i64) l1, .xi n1, .xi i_] 0 18) [] := by
  intro fu
  induction fu with
  | zero => intros; rfl
  | succ fu ih =>
    intro i_
    have e : (fun i_ => L.d6_L1_R l1 n1 fu i_ (K (.exit 0) (bld [] [] 0 18) []) (fun q0_ => K .ret (bld [4] [.x (.bool q0_)] 0 18) [])) = fun i_ => iterL (stepL (exec L.pg (CC L.pg L.Γ_d6 L.Δ_d6) (drawD L.pg L.Γ_d6 L.Δ_d6) .leaf (sub [true, false, true, false, false] (codeOf Tryz.f7))) 0 L.d6_L1_d K) fu (bld L.d6_L1_d.keep [.ro (.int .i64) l1, .xi n1, .xi i_] 0 18) [] := by
      funext i_; exact ih i_
    show L.d6_L1_b l1 n1 i_ (fun i_ => L.d6_L1_R l1 n1 fu i_ (K (.exit 0) (bld [] [] 0 18) []) (fun q0_ => K .ret (bld [4] [.x (.bool q0_)] 0 18) [])) (K (.exit 0) (bld [] [] 0 18) []) (fun q0_ => K .ret (bld [4] [.x (.bool q0_)] 0 18) []) = _
    rw [e]
    kernel_rfl
theorem L.d6_L1_imp (vs : List V) (st : List Ob) (K : Ex → St) (h : L.d6_L1_G vs st K) : ∃ fu, iterL (stepL (exec L.pg (CC L.pg L.Γ_d6 L.Δ_d6) (drawD L.pg L.Γ_d6 L.Δ_d6) .leaf (sub [true, false, true, false, false] (codeOf Tryz.f7))) 0 L.d6_L1_d K) fu (bld L.d6_L1_d.keep (mkL L.d6_L1_ss 0 vs) 0 18) (mkOs L.d6_L1_os 0 st) :=
  exMap (fun fu h => @Eq.mp _ _ (Eq.trans (L.d6_L1_eq (gR (.int .i64) (gA vs 0)) (gI (gA vs 1)) K fu (gI (gA vs 2))) (by kernel_rfl)) h) (L.d6_L1.out h)
theorem L.d6_L1_ok : AnnOk L.pg (CC L.pg L.Γ_d6 L.Δ_d6) (drawD L.pg L.Γ_d6 L.Δ_d6) 0 (.lift L.d6_L1_d 18 L.d6_L1_F) (.loop (sub [true, false, true, false, false] (codeOf Tryz.f7))) :=
  lift_ok (an := .leaf) (ss := L.d6_L1_ss) (os := L.d6_L1_os) (G := L.d6_L1_G) rfl (Nat.le_of_ble_eq_true rfl) (annOk_leaf _) (L.d6_L1_imp)
def L.d6_B (l : (List Int)) (n : Int) (K : Bool → Prop) : Prop :=
  L.d6_L1 l n 0 (K false) (fun r => K r)
structure L.d6 (l : (List Int)) (n : Int) (K : Bool → Prop) : Prop where
  out : L.d6_B l n K
def L.d6_ss : List Sh := [.ro (.int .i64), .int .i64]
def L.d6_G (vs : List V) (K : V → List Ob → Prop) : Prop := L.d6 (gR (.int .i64) (gA vs 0)) (gI (gA vs 1)) (fun r0 => K (.x (.bool r0)) [])
def L.d6_S : SemF := fun args K => argF L.d6_ss args fun a => L.d6_G a K
theorem L.d6_eq (l : (List Int)) (n : Int) (K : V → List Ob → Prop) : run L.pg L.Γ_d6 L.Δ_d6 (.node .leaf (.node (.node .leaf (.lift L.d6_L1_d 18 L.d6_L1_F)) .leaf)) .any Tryz.f7 [.ro (.int .i64) l, .xi n] K = L.d6_B l n (fun r0 => K (.x (.bool r0)) []) := by
  kernel_rfl
theorem L.d6_imp (vs : List V) (K : V → List Ob → Prop) : Imp (L.d6_G vs K) (run L.pg L.Γ_d6 L.Δ_d6 (.node .leaf (.node (.node .leaf (.lift L.d6_L1_d 18 L.d6_L1_F)) .leaf)) .any Tryz.f7 (mkL L.d6_ss 0 vs) K) :=
  Imp.of (Eq.trans (b := run L.pg L.Γ_d6 L.Δ_d6 (.node .leaf (.node (.node .leaf (.lift L.d6_L1_d 18 L.d6_L1_F)) .leaf)) .any Tryz.f7 [.ro (.int .i64) (gR (.int .i64) (gA vs 0)), .xi (gI (gA vs 1))] K) (by kernel_rfl) (L.d6_eq (gR (.int .i64) (gA vs 0)) (gI (gA vs 1)) K)) fun h => (L.d6.out h)
theorem L.d6_ok : SoundFn L.pg 7 L.d6_S :=
  fn_ok (sem := run L.pg L.Γ_d6 L.Δ_d6 (.node .leaf (.node (.node .leaf (.lift L.d6_L1_d 18 L.d6_L1_F)) .leaf)) .any Tryz.f7) (ss := L.d6_ss) (G := L.d6_G) (run_ok L.Γ_d6_ok L.Δ_d6_ok Tryz.func7 (ann := (.node .leaf (.node (.node .leaf (.lift L.d6_L1_d 18 L.d6_L1_F)) .leaf))) ⟨(annOk_leaf _), ⟨⟨(annOk_leaf _), L.d6_L1_ok⟩, (annOk_leaf _)⟩⟩) L.d6_imp
def L.Γ_a3 : Ctx := ctxC L.Γ_d6 7 L.d6_S
theorem L.Γ_a3_ok : SoundG L.pg L.Γ_a3 := ctxC_ok L.Γ_d6_ok L.d6_ok
def L.Δ_a3 : CtxO := L.Δ_d6
theorem L.Δ_a3_ok : SoundGO L.pg L.Δ_a3 := L.Δ_d6_ok
def L.a3_L1_b (n1 : Int) (i_ : Int) (patches : L.T2) (self : Int → L.T2 → Prop) (Kx0 : L.T2 → Prop) : Prop :=
  (bif (decide (i_ < n1)) then (0 ≤ i_ ∧ i_ ≤ (i64 (i_ + 1)) ∧ (i64 (i_ + 1)) ≤ L.str1.size) ∧ (fits (patches.length + ([([(1, ((L.str1.extract i_.toNat (i64 (i_ + 1)).toNat), (L.str2, (([(L.str1.extract i_.toNat (i64 (i_ + 1)).toNat)] : List ByteArray), ([] : List (Int × (L.yf × L.yf)))))))] : List (Int × (ByteArray × (ByteArray × (L.yf × L.T10)))))] : List L.T3).length)) ∧ self (i64 (i_ + 1)) (patches ++ ([([(1, ((L.str1.extract i_.toNat (i64 (i_ + 1)).toNat), (L.str2, (([(L.str1.extract i_.toNat (i64 (i_ + 1)).toNat)] : List ByteArray), ([] : List (Int × (L.yf × L.yf)))))))] : List (Int × (ByteArray × (ByteArray × (L.yf × L.T10)))))] : List L.T3)) else Kx0 patches)
def L.a3_L1_R (n1 : Int) : Nat → Int → L.T2 → (L.T2 → Prop) → Prop
  | 0, _, _, _ => False
  | fu + 1, i_, patches, Kx0 => L.a3_L1_b n1 i_ patches (fun i_ patches => L.a3_L1_R n1 fu i_ patches Kx0) Kx0
structure L.a3_L1 (n1 : Int) (i_ : Int) (patches : L.T2) (Kx0 : L.T2 → Prop) : Prop where
  out : ∃ fu, L.a3_L1_R n1 fu i_ patches Kx0
def L.a3_L1_d : LoopD := { base := 2, vecs := [(7, .sl L.T0)], flds := [], keep := [0, 1, 5, 7, 8], out := [0, 1, 5, 7], rets := [4], rv := [], rbase := 0 }
def L.a3_L1_ss : List Sh := [.int .i64, .ro L.ye, .vec 0, .vec 2, .int .i64]
def L.a3_L1_os : List OSh := [.vec (.int .i64) true, .cells [.int .i64, .int .i64], .vec L.T0 true]
def L.a3_L1_G (vs : List V) (st : List Ob) (K : Ex → St) : Prop := L.a3_L1 (gI (gA vs 0)) (gI (gA vs 4)) (oX L.T0 (gD st 2)) (fun q0_ => K (.exit 0) (bld [0, 1, 5, 7] [.xi (gI (gA vs 0)), .ro L.ye (gR L.ye (gA vs 1)), .vec 0, .vec 2] 0 86) [.vec (.int .i64) 0 (oX (.int .i64) (gD st 0)), .cells [.xi (cI st 1 0), .xi (cI st 1 1)], .vec L.T0 0 q0_])
def L.a3_L1_F (vs : List V) (st : List Ob) (K : Ex → St) : Prop := fitF L.a3_L1_ss L.a3_L1_os vs st (L.a3_L1_G vs st K)
theorem L.a3_L1_eq (n1 : Int) (culprits1 : L.yi) (want : (List Int)) (m1 : Int) (m11 : Int) (K : Ex → St) : ∀ (fu : Nat) (i_ : Int) (patches : L.T2), L.a3_L1_R n1 fu i_ patches (fun q0_ => K (.exit 0) (bld [0, 1, 5, 7] [.xi n1, .ro L.ye culprits1, .vec 0, .vec 2] 0 86) [.vec (.int .i64) 0 want, .cells [.xi m1, .xi m11], .vec L.T0 0 q0_]) = iterL (stepL (exec L.pg (CC L.pg L.Γ_a3 L.Δ_a3) (drawD L.pg L.Γ_a3 L.Δ_a3) .leaf (sub [true, true, true, true, true, false, true, false, false] (codeOf Tryz.f3))) 2 L.a3_L1_d K) fu (bld L.a3_L1_d.keep [.xi n1, .ro L.ye culprits1, .vec 0, .vec 2, .xi i_] 0 86) [.vec (.int .i64) 0 want, .cells [.xi m1, .xi m11], .vec L.T0 0 patches] := by
  intro fu
  induction fu with
  | zero => intros; rfl
  | succ fu ih =>
    intro i_ patches
    have e : (fun i_ patches => L.a3_L1_R n1 fu i_ patches (fun q0_ => K (.exit 0) (bld [0, 1, 5, 7] [.xi n1, .ro L.ye culprits1, .vec 0, .vec 2] 0 86) [.vec (.int .i64) 0 want, .cells [.xi m1, .xi m11], .vec L.T0 0 q0_])) = fun i_ patches => iterL (stepL (exec L.pg (CC L.pg L.Γ_a3 L.Δ_a3) (drawD L.pg L.Γ_a3 L.Δ_a3) .leaf (sub [true, true, true, true, true, false, true, false, false] (codeOf Tryz.f3))) 2 L.a3_L1_d K) fu (bld L.a3_L1_d.keep [.xi n1, .ro L.ye culprits1, .vec 0, .vec 2, .xi i_] 0 86) [.vec (.int .i64) 0 want, .cells [.xi m1, .xi m11], .vec L.T0 0 patches] := by
      funext i_ patches; exact ih i_ patches
    show L.a3_L1_b n1 i_ patches (fun i_ patches => L.a3_L1_R n1 fu i_ patches (fun q0_ => K (.exit 0) (bld [0, 1, 5, 7] [.xi n1, .ro L.ye culprits1, .vec 0, .vec 2] 0 86) [.vec (.int .i64) 0 want, .cells [.xi m1, .xi m11], .vec L.T0 0 q0_])) (fun q0_ => K (.exit 0) (bld [0, 1, 5, 7] [.xi n1, .ro L.ye culprits1, .vec 0, .vec 2] 0 86) [.vec (.int .i64) 0 want, .cells [.xi m1, .xi m11], .vec L.T0 0 q0_]) = _
    rw [e]
    kernel_rfl
theorem L.a3_L1_imp (vs : List V) (st : List Ob) (K : Ex → St) (h : L.a3_L1_G vs st K) : ∃ fu, iterL (stepL (exec L.pg (CC L.pg L.Γ_a3 L.Δ_a3) (drawD L.pg L.Γ_a3 L.Δ_a3) .leaf (sub [true, true, true, true, true, false, true, false, false] (codeOf Tryz.f3))) 2 L.a3_L1_d K) fu (bld L.a3_L1_d.keep (mkL L.a3_L1_ss 0 vs) 0 86) (mkOs L.a3_L1_os 0 st) :=
  exMap (fun fu h => @Eq.mp _ _ (Eq.trans (L.a3_L1_eq (gI (gA vs 0)) (gR L.ye (gA vs 1)) (oX (.int .i64) (gD st 0)) (cI st 1 0) (cI st 1 1) K fu (gI (gA vs 4)) (oX L.T0 (gD st 2))) (by kernel_rfl)) h) (L.a3_L1.out h)
theorem L.a3_L1_ok : AnnOk L.pg (CC L.pg L.Γ_a3 L.Δ_a3) (drawD L.pg L.Γ_a3 L.Δ_a3) 0 (.lift L.a3_L1_d 86 L.a3_L1_F) (.loop (sub [true, true, true, true, true, false, true, false, false] (codeOf Tryz.f3))) :=
  lift_ok (an := .leaf) (ss := L.a3_L1_ss) (os := L.a3_L1_os) (G := L.a3_L1_G) rfl (Nat.le_of_ble_eq_true rfl) (annOk_leaf _) (L.a3_L1_imp)
def L.a3_L2_b (n1 : Int) (want : (List Int)) (out : (List Int)) (i_ : Int) (self : Int → Prop) (Kx2 : Prop) (Kr : Bool → Prop) : Prop :=
  (bif (decide (i_ < n1)) then (inB i_ out.length) ∧ L.d6 want i_ (fun r6 => (bif (!(((out.getD i_.toNat 0) == 0) == r6)) then Kr false else self (i64 (i_ + 1)))) else Kx2)
def L.a3_L2_R (n1 : Int) (want : (List Int)) (out : (List Int)) : Nat → Int → (Prop) → (Bool → Prop) → Prop
  | 0, _, _, _ => False
  | fu + 1, i_, Kx2, Kr => L.a3_L2_b n1 want out i_ (fun i_ => L.a3_L2_R n1 want out fu i_ Kx2 Kr) Kx2 Kr
structure L.a3_L2 (n1 : Int) (want : (List Int)) (out : (List Int)) (i_ : Int) (Kx2 : Prop) (Kr : Bool → Prop) : Prop where
  out : ∃ fu, L.a3_L2_R n1 want out fu i_ Kx2 Kr
def L.a3_L2_d : LoopD := { base := 7, vecs := [], flds := [], keep := [0, 5, 11, 13], out := [], rets := [4], rv := [], rbase := 0 }
def L.a3_L2_ss : List Sh := [.int .i64, .vec 0, .vec 4, .int .i64]
def L.a3_L2_os : List OSh := [.vec (.int .i64) true, .cells [.int .i64, .int .i64], .vec L.T0 false, .vec L.yc true, .vec (.int .i64) true, .cells [.vec 3], .cells [.int .i64, .int .i64]]
def L.a3_L2_G (vs : List V) (st : List Ob) (K : Ex → St) : Prop := L.a3_L2 (gI (gA vs 0)) (oX (.int .i64) (gD st 0)) (oX (.int .i64) (gD st 4)) (gI (gA vs 3)) (K (.exit 2) (bld [] [] 0 86) [.vec (.int .i64) 0 (oX (.int .i64) (gD st 0)), .cells [.xi (cI st 1 0), .xi (cI st 1 1)], .vec L.T0 (oF (gD st 2)) (oX L.T0 (gD st 2)), .vec L.yc 0 (oX L.yc (gD st 3)), .vec (.int .i64) 0 (oX (.int .i64) (gD st 4)), .cells [.vec 3], .cells [.xi (cI st 6 0), .xi (cI st 6 1)]]) (fun q0_ => K .ret (bld [4] [.x (.bool q0_)] 0 86) [])
def L.a3_L2_F (vs : List V) (st : List Ob) (K : Ex → St) : Prop := fitF L.a3_L2_ss L.a3_L2_os vs st (L.a3_L2_G vs st K)
theorem L.a3_L2_eq (n1 : Int) (want : (List Int)) (m1 : Int) (m11 : Int) (m2 : Nat) (m21 : L.T2) (m3 : L.T11) (out : (List Int)) (m6 : Int) (m61 : Int) (K : Ex → St) : ∀ (fu : Nat) (i_ : Int), L.a3_L2_R n1 want out fu i_ (K (.exit 2) (bld [] [] 0 86) [.vec (.int .i64) 0 want, .cells [.xi m1, .xi m11], .vec L.T0 m2 m21, .vec L.yc 0 m3, .vec (.int .i64) 0 out, .cells [.vec 3], .cells [.xi m6, .xi m61]]) (fun q0_ => K .ret (bld [4] [.x (.bool q0_)] 0 86) []) = iterL (stepL (exec L.pg (CC L.pg L.Γ_a3 L.Δ_a3) (drawD L.pg L.Γ_a3 L.Δ_a3) .leaf (sub [true, true, true, true, true, true, true, true, false, true, false, false] (codeOf Tryz.f3))) 7 L.a3_L2_d K) fu (bld L.a3_L2_d.keep [.xi n1, .vec 0, .vec 4, .xi i_] 0 86) [.vec (.int .i64) 0 want, .cells [.xi m1, .xi m11], .vec L.T0 m2 m21, .vec L.yc 0 m3, .vec (.int .i64) 0 out, .cells [.vec 3], .cells [.xi m6, .xi m61]] := by
  intro fu
  induction fu with
  | zero => intros; rfl
  | succ fu ih =>
    intro i_
    have e : (fun i_ => L.a3_L2_R n1 want out fu i_ (K (.exit 2) (bld [] [] 0 86) [.vec (.int .i64) 0 want, .cells [.xi m1, .xi m11], .vec L.T0 m2 m21, .vec L.yc 0 m3, .vec (.int .i64) 0 out, .cells [.vec 3], .cells [.xi m6, .xi m61]]) (fun q0_ => K .ret (bld [4] [.x (.bool q0_)] 0 86) [])) = fun i_ => iterL (stepL (exec L.pg (CC L.pg L.Γ_a3 L.Δ_a3) (drawD L.pg L.Γ_a3 L.Δ_a3) .leaf (sub [true, true, true, true, true, true, true, true, false, true, false, false] (codeOf Tryz.f3))) 7 L.a3_L2_d K) fu (bld L.a3_L2_d.keep [.xi n1, .vec 0, .vec 4, .xi i_] 0 86) [.vec (.int .i64) 0 want, .cells [.xi m1, .xi m11], .vec L.T0 m2 m21, .vec L.yc 0 m3, .vec (.int .i64) 0 out, .cells [.vec 3], .cells [.xi m6, .xi m61]] := by
      funext i_; exact ih i_
    show L.a3_L2_b n1 want out i_ (fun i_ => L.a3_L2_R n1 want out fu i_ (K (.exit 2) (bld [] [] 0 86) [.vec (.int .i64) 0 want, .cells [.xi m1, .xi m11], .vec L.T0 m2 m21, .vec L.yc 0 m3, .vec (.int .i64) 0 out, .cells [.vec 3], .cells [.xi m6, .xi m61]]) (fun q0_ => K .ret (bld [4] [.x (.bool q0_)] 0 86) [])) (K (.exit 2) (bld [] [] 0 86) [.vec (.int .i64) 0 want, .cells [.xi m1, .xi m11], .vec L.T0 m2 m21, .vec L.yc 0 m3, .vec (.int .i64) 0 out, .cells [.vec 3], .cells [.xi m6, .xi m61]]) (fun q0_ => K .ret (bld [4] [.x (.bool q0_)] 0 86) []) = _
    rw [e]
    kernel_rfl
theorem L.a3_L2_imp (vs : List V) (st : List Ob) (K : Ex → St) (h : L.a3_L2_G vs st K) : ∃ fu, iterL (stepL (exec L.pg (CC L.pg L.Γ_a3 L.Δ_a3) (drawD L.pg L.Γ_a3 L.Δ_a3) .leaf (sub [true, true, true, true, true, true, true, true, false, true, false, false] (codeOf Tryz.f3))) 7 L.a3_L2_d K) fu (bld L.a3_L2_d.keep (mkL L.a3_L2_ss 0 vs) 0 86) (mkOs L.a3_L2_os 0 st) :=
  exMap (fun fu h => @Eq.mp _ _ (Eq.trans (L.a3_L2_eq (gI (gA vs 0)) (oX (.int .i64) (gD st 0)) (cI st 1 0) (cI st 1 1) (oF (gD st 2)) (oX L.T0 (gD st 2)) (oX L.yc (gD st 3)) (oX (.int .i64) (gD st 4)) (cI st 6 0) (cI st 6 1) K fu (gI (gA vs 3))) (by kernel_rfl)) h) (L.a3_L2.out h)
theorem L.a3_L2_ok : AnnOk L.pg (CC L.pg L.Γ_a3 L.Δ_a3) (drawD L.pg L.Γ_a3 L.Δ_a3) 0 (.lift L.a3_L2_d 86 L.a3_L2_F) (.loop (sub [true, true, true, true, true, true, true, true, false, true, false, false] (codeOf Tryz.f3))) :=
  lift_ok (an := .leaf) (ss := L.a3_L2_ss) (os := L.a3_L2_os) (G := L.a3_L2_G) rfl (Nat.le_of_ble_eq_true rfl) (annOk_leaf _) (L.a3_L2_imp)
def L.a3_B (n : Int) (culprits : L.yi) (K : Bool → Prop) : Prop :=
  L.g2 (fun r => (bif (!r) then K false else L.b8 n culprits (fun r1 rCode rIndex => (bif (bif (rCode != 0) then true else (decide (n > 12))) then K true else L.a3_L1 n 0 ([] : List L.T3) (fun patches => L.e9 ([] : List (ByteArray × L.yf)) patches culprits (fun r2 r3 r4 r5 => (bif (bif (bif (r2 != 0) then true else ((r5.length : Int) != n)) then true else ((r4.length : Int) != (r1.length : Int))) then K false else L.a3_L2 n r1 r5 0 (K true) (fun r6 => K r6))))))))
structure L.a3 (n : Int) (culprits : L.yi) (K : Bool → Prop) : Prop where
  out : L.a3_B n culprits K
def L.a3_ss : List Sh := [.int .i64, .ro L.ye]
def L.a3_G (vs : List V) (K : V → List Ob → Prop) : Prop := L.a3 (gI (gA vs 0)) (gR L.ye (gA vs 1)) (fun r0 => K (.x (.bool r0)) [])
def L.a3_S : SemF := fun args K => argF L.a3_ss args fun a => L.a3_G a K
theorem L.a3_eq (n : Int) (culprits : L.yi) (K : V → List Ob → Prop) : run L.pg L.Γ_a3 L.Δ_a3 (.node .leaf (.node .leaf (.node .leaf (.node .leaf (.node .leaf (.node (.node .leaf (.lift L.a3_L1_d 86 L.a3_L1_F)) (.node .leaf (.node .leaf (.node (.node .leaf (.lift L.a3_L2_d 86 L.a3_L2_F)) .leaf))))))))) .any Tryz.f3 [.xi n, .ro L.ye culprits] K = L.a3_B n culprits (fun r0 => K (.x (.bool r0)) []) := by
  kernel_rfl
theorem L.a3_imp (vs : List V) (K : V → List Ob → Prop) : Imp (L.a3_G vs K) (run L.pg L.Γ_a3 L.Δ_a3 (.node .leaf (.node .leaf (.node .leaf (.node .leaf (.node .leaf (.node (.node .leaf (.lift L.a3_L1_d 86 L.a3_L1_F)) (.node .leaf (.node .leaf (.node (.node .leaf (.lift L.a3_L2_d 86 L.a3_L2_F)) .leaf))))))))) .any Tryz.f3 (mkL L.a3_ss 0 vs) K) :=
  Imp.of (Eq.trans (b := run L.pg L.Γ_a3 L.Δ_a3 (.node .leaf (.node .leaf (.node .leaf (.node .leaf (.node .leaf (.node (.node .leaf (.lift L.a3_L1_d 86 L.a3_L1_F)) (.node .leaf (.node .leaf (.node (.node .leaf (.lift L.a3_L2_d 86 L.a3_L2_F)) .leaf))))))))) .any Tryz.f3 [.xi (gI (gA vs 0)), .ro L.ye (gR L.ye (gA vs 1))] K) (by kernel_rfl) (L.a3_eq (gI (gA vs 0)) (gR L.ye (gA vs 1)) K)) fun h => (L.a3.out h)
theorem L.a3_ok : SoundFn L.pg 3 L.a3_S :=
  fn_ok (sem := run L.pg L.Γ_a3 L.Δ_a3 (.node .leaf (.node .leaf (.node .leaf (.node .leaf (.node .leaf (.node (.node .leaf (.lift L.a3_L1_d 86 L.a3_L1_F)) (.node .leaf (.node .leaf (.node (.node .leaf (.lift L.a3_L2_d 86 L.a3_L2_F)) .leaf))))))))) .any Tryz.f3) (ss := L.a3_ss) (G := L.a3_G) (run_ok L.Γ_a3_ok L.Δ_a3_ok Tryz.func3 (ann := (.node .leaf (.node .leaf (.node .leaf (.node .leaf (.node .leaf (.node (.node .leaf (.lift L.a3_L1_d 86 L.a3_L1_F)) (.node .leaf (.node .leaf (.node (.node .leaf (.lift L.a3_L2_d 86 L.a3_L2_F)) .leaf)))))))))) ⟨(annOk_leaf _), ⟨(annOk_leaf _), ⟨(annOk_leaf _), ⟨(annOk_leaf _), ⟨(annOk_leaf _), ⟨⟨(annOk_leaf _), L.a3_L1_ok⟩, ⟨(annOk_leaf _), ⟨(annOk_leaf _), ⟨⟨(annOk_leaf _), L.a3_L2_ok⟩, (annOk_leaf _)⟩⟩⟩⟩⟩⟩⟩⟩⟩) L.a3_imp
end Go.Proofs.YtnpjonhoihbaeaaGreatDoor
set_option linter.unusedVariables false
namespace Go.Proofs.YtnpjonhoihbaeaaGreatDoor
open Eng
namespace Bb
theorem drop_cons {α : Type} {l : List α} {i : Nat} (d : α) (h : i < l.length) : l.drop i = l.getD i d :: l.drop (i + 1) := by
  rw [List.drop_eq_getElem_cons h, List.getD_eq_getElem?_getD, List.getElem?_eq_getElem h]; rfl
theorem getD_mem {α : Type} {l : List α} {i : Nat} (d : α) (h : i < l.length) : l.getD i d ∈ l := by
  rw [List.getD_eq_getElem?_getD, List.getElem?_eq_getElem h]; exact List.getElem_mem h
def big (n : Nat) : Prop := n ≤ 9223372036854775807
theorem big_of {n : Nat} (h : n ≤ maxLen) : big n := by unfold maxLen at h; unfold big; omega
def lc (n : Int) : Int → List Int → Int
  | _, [] => 0
  | p, k :: t => if k < 0 ∨ n ≤ k then 3 else if k ≤ p then 5 else lc n k t
def prev (l : List Int) : Nat → Int
  | 0 => -1
  | i + 1 => l.getD i 0
theorem list_loop {n : Int} {l : List Int} (hl : big l.length) {K : Int → Prop} : ∀ (fu i : Nat), i ≤ l.length → l.length - i < fu → K (lc n (prev l i) (l.drop i)) → L.d4_L1_R n l l (l.length : Int) fu i (K 0) K
  | 0, i, _, h, _ => by omega
  | fu + 1, i, hi, h, hK => by
    unfold big at hl
    show L.d4_L1_b n l l _ i _ _ _
    unfold L.d4_L1_b
    rcases Nat.lt_or_ge i l.length with g | g
    · rw [drop_cons 0 g, lc] at hK
      have hin : inB (i : Int) l.length := inB_of (by omega) (by omega)
      refine cond_t (by simp; omega) ⟨hin, ?_⟩
      simp only [Int.toNat_natCast]
      by_cases c1 : l.getD i 0 < 0 ∨ n ≤ l.getD i 0
      · rw [if_pos c1] at hK; exact cond_t (by simp only [bor, Bool.or_eq_true, decide_eq_true_eq]; omega) hK
      · rw [if_neg c1] at hK
        refine cond_f (by simp only [bor, Bool.or_eq_false_iff, decide_eq_false_iff_not]; omega) ⟨fun hp => ?_, ?_⟩
        · rw [i64_id (by omega) (by omega)]
          have hp' : (0 : Int) < i := by simpa using hp
          exact inB_of (by omega) (by omega)
        · rw [i64_id (n := (i : Int) - 1) (by omega) (by omega), i64_id (n := (i : Int) + 1) (by omega) (by omega)]
          have hp : (bif decide ((i : Int) > 0) then decide (l.getD i 0 ≤ l.getD ((i : Int) - 1).toNat 0) else false) = decide (l.getD i 0 ≤ prev l i) := by
            cases i with
            | zero =>
              rw [show prev l 0 = -1 from rfl, decide_eq_false (p := ((0 : Nat) : Int) > 0) (by omega)]
              exact (decide_eq_false (by omega)).symm
            | succ j =>
              rw [decide_eq_true (p := ((j + 1 : Nat) : Int) > 0) (by omega), show (((j + 1 : Nat) : Int) - 1).toNat = j from by omega]; rfl
          rw [hp]
          by_cases c2 : l.getD i 0 ≤ prev l i
          · rw [if_pos c2] at hK; exact cond_t (decide_eq_true c2) hK
          · rw [if_neg c2] at hK
            exact cond_f (decide_eq_false c2) (list_loop hl fu (i + 1) (by omega) (by omega) hK)
    · rw [List.drop_eq_nil_of_le g] at hK
      exact cond_f (by simp; omega) hK
theorem list_ok {n : Int} {l : List Int} (hl : big l.length) {K : Int → Prop} (hK : K (lc n (-1) l)) : L.d4 n l K :=
  ⟨⟨⟨l.length + 1, list_loop hl _ 0 (by omega) (by omega) hK⟩⟩⟩
def cf (n : Int) : Int → List (List Int) → Int × Int
  | _, [] => (0, 0)
  | i, s :: t => if s = [] then (9, i) else if lc n (-1) s ≠ 0 then (lc n (-1) s, i) else cf n (i + 1) t
def vf (n : Int) (cs : List (List Int)) : Int × Int :=
  if n < 0 ∨ 16 < n then (3, -1) else if 8 < cs.length then (2, -1) else cf n 0 cs
end Bb
end Go.Proofs.YtnpjonhoihbaeaaGreatDoor
set_option linter.unusedVariables false
namespace Go.Proofs.YtnpjonhoihbaeaaGreatDoor
open Eng
namespace Bb
theorem dec_bool {p : Prop} [Decidable p] {b : Bool} (h : p ↔ b = true) : decide p = b := by
  cases b with
  | true => exact decide_eq_true (h.mpr rfl)
  | false => exact decide_eq_false fun hp => by cases h.mp hp
theorem Validate_loop {n : Int} {cs : List (List Int)} (hl : big cs.length) (hs : ∀ s, s ∈ cs → big s.length) {K : Int → Int → Prop} : ∀ (fu i : Nat), i ≤ cs.length → cs.length - i < fu → K (cf n i (cs.drop i)).1 (cf n i (cs.drop i)).2 →
    L.a5_L1_R n cs (cs.length : Int) fu i (K 0 0) K
  | 0, i, _, h, _ => by omega
  | fu + 1, i, hi, h, hK => by
    unfold big at hl
    show L.a5_L1_b n cs _ i _ _ _
    unfold L.a5_L1_b
    rcases Nat.lt_or_ge i cs.length with g | g
    · rw [drop_cons [] g, cf] at hK
      have hin : inB (i : Int) cs.length := inB_of (by omega) (by omega)
      have hb := hs _ (getD_mem [] g)
      refine cond_t (by simp; omega) ⟨hin, ?_⟩
      simp only [Int.toNat_natCast]
      rw [i64_id (by omega) (by omega)]
      generalize cs.getD i [] = s at *
      by_cases c1 : s = []
      · rw [if_pos c1] at hK; subst c1; exact list_ok hb (cond_t rfl ⟨cond_t rfl hK⟩)
      · rw [if_neg c1] at hK
        refine list_ok hb (cond_f (by cases s with | nil => exact absurd rfl c1 | cons a t => simp; omega) ?_)
        by_cases c2 : lc n (-1) s ≠ 0
        · rw [if_pos c2] at hK; exact ⟨cond_t (by simpa using c2) hK⟩
        · rw [if_neg c2] at hK
          exact ⟨cond_f (by simpa using c2) (Validate_loop hl hs fu (i + 1) (by omega) (by omega) hK)⟩
    · rw [List.drop_eq_nil_of_le g] at hK
      exact cond_f (by simp; omega) hK
theorem Validate_ok {n : Int} {cs : List (List Int)} (hs : ∀ s, s ∈ cs → big s.length) {K : Int → Int → Prop} (hK : K (vf n cs).1 (vf n cs).2) : L.a5 n cs K := by
  constructor
  unfold L.a5_B
  unfold vf at hK
  by_cases c1 : n < 0 ∨ 16 < n
  · rw [if_pos c1] at hK; exact cond_t (by simp only [bor, Bool.or_eq_true, decide_eq_true_eq]; omega) hK
  · rw [if_neg c1] at hK
    refine cond_f (by simp only [bor, Bool.or_eq_false_iff, decide_eq_false_iff_not]; omega) ?_
    by_cases c2 : 8 < cs.length
    · rw [if_pos c2] at hK; exact cond_t (by simp; omega) hK
    · rw [if_neg c2] at hK
      refine cond_f (by simp; omega) ⟨⟨cs.length + 1, ?_⟩⟩
      have hz := Validate_loop (n := n) (cs := cs) (by unfold big; omega) hs (K := K) (cs.length + 1) 0 (by omega) (by omega) hK
      exact hz
def has (s : List Int) (k : Int) : Bool := decide (k ∈ s)
theorem Index_loop {s : List Int} {v : Int} (hl : big s.length) {K : Int → Prop} : ∀ (fu i : Nat), i ≤ s.length → s.length - i < fu → (∀ r : Int, (0 ≤ r ↔ v ∈ s.drop i) → K r) → L.c2_L1_R s v (s.length : Int) fu i (K (-1)) K
  | 0, i, _, h, _ => by omega
  | fu + 1, i, hi, h, hK => by
    unfold big at hl
    show L.c2_L1_b s v _ i _ _ _
    unfold L.c2_L1_b
    rcases Nat.lt_or_ge i s.length with g | g
    · rw [drop_cons 0 g] at hK
      refine cond_t (by simp; omega) ⟨inB_of (by omega) (by omega), ?_⟩
      simp only [Int.toNat_natCast]
      by_cases c : v = s.getD i 0
      · exact cond_t (by simpa using c) (hK _ (by simp [c]))
      · refine cond_f (by simpa using c) ?_
        rw [i64_id (by omega) (by omega)]
        refine Index_loop hl fu (i + 1) (by omega) (by omega) fun r hr => hK r ?_
        rw [hr, List.mem_cons]
        exact ⟨.inr, fun h => h.resolve_left c⟩
    · rw [List.drop_eq_nil_of_le g] at hK
      exact cond_f (by simp; omega) (hK _ (by simp))
theorem Contains_ok {s : List Int} {v : Int} (hl : big s.length) {K : Bool → Prop} (hK : K (has s v)) : L.f1 s v K := by
  refine ⟨⟨⟨⟨s.length + 1, Index_loop (K := fun r => K (decide (r ≥ 0))) hl _ 0 (by omega) (by omega) fun r hr => ?_⟩⟩⟩⟩
  have e : decide (r ≥ 0) = has s v := by
    unfold has
    exact decide_eq_decide.mpr (by simpa using hr)
  rw [e]; exact hK
theorem IndexFunc6_loop {s c : List Int} (hl : big s.length) (hc : big c.length) {K : Int → Prop} : ∀ (fu i : Nat), i ≤ s.length → s.length - i < fu → (∀ r : Int, (0 ≤ r ↔ (s.drop i).any (fun k => !has c k) = true) → K r) → L.d1_L1_R s c (s.length : Int) fu i (K (-1)) K
  | 0, i, _, h, _ => by omega
  | fu + 1, i, hi, h, hK => by
    unfold big at hl
    show L.d1_L1_b s c _ i _ _ _
    unfold L.d1_L1_b
    rcases Nat.lt_or_ge i s.length with g | g
    · rw [drop_cons 0 g, List.any_cons] at hK
      refine cond_t (by simp; omega) ⟨inB_of (by omega) (by omega), ⟨⟨Contains_ok hc ?_⟩⟩⟩
      simp only [Int.toNat_natCast]
      cases e : has c (s.getD i 0) with
      | false => exact cond_t rfl (hK _ (by rw [e]; exact ⟨fun _ => rfl, fun _ => by omega⟩))
      | true =>
        refine cond_f rfl ?_
        rw [i64_id (by omega) (by omega)]
        refine IndexFunc6_loop hl hc fu (i + 1) (by omega) (by omega) fun r hr => hK r ?_
        rw [hr, e]; exact Iff.rfl
    · rw [List.drop_eq_nil_of_le g] at hK
      exact cond_f (by simp; omega) (hK _ (by simp))
theorem all_not_any (s : List Int) (p : Int → Bool) : (!s.any (fun k => !p k)) = s.all p := by
  induction s with
  | nil => rfl
  | cons a t ih => rw [List.any_cons, List.all_cons, ← ih]; cases p a <;> simp
theorem Run1_ok {s c : List Int} (hl : big s.length) (hc : big c.length) {K : Bool → Prop} (hK : K (s.all (has c))) : L.f5 s c K := by
  refine ⟨⟨⟨⟨⟨s.length + 1, IndexFunc6_loop (K := fun r => K (!decide (r ≥ 0))) hl hc _ 0 (by omega) (by omega) fun r hr => ?_⟩⟩⟩⟩⟩
  have e : (!decide (r ≥ 0)) = s.all (has c) := by
    rw [← all_not_any]
    congr 1
    have hr' : (r ≥ 0) ↔ (s.any fun k => !has c k) = true := by simpa using hr
    rw [dec_bool hr']
  rw [e]; exact hK
def fails (cs : List (List Int)) (set : List Int) : Bool := cs.any fun s => s.all (has set)
theorem IndexFunc3_loop {cs : List (List Int)} {c : List Int} (hl : big cs.length) (hs : ∀ s, s ∈ cs → big s.length) (hc : big c.length) {K : Int → Prop} : ∀ (fu i : Nat), i ≤ cs.length → cs.length - i < fu → (∀ r : Int, (0 ≤ r ↔ fails (cs.drop i) c = true) → K r) → L.d2_L1_R cs c (cs.length : Int) fu i (K (-1)) K
  | 0, i, _, h, _ => by omega
  | fu + 1, i, hi, h, hK => by
    unfold big at hl
    show L.d2_L1_b cs c _ i _ _ _
    unfold L.d2_L1_b
    rcases Nat.lt_or_ge i cs.length with g | g
    · unfold fails at hK
      rw [drop_cons [] g, List.any_cons] at hK
      have hb := hs _ (getD_mem [] g)
      refine cond_t (by simp; omega) ⟨inB_of (by omega) (by omega), ?_⟩
      simp only [Int.toNat_natCast]
      refine Run1_ok hb hc ?_
      cases e : (cs.getD i []).all (has c) with
      | true => exact cond_t rfl (hK _ (by rw [e]; exact ⟨fun _ => rfl, fun _ => by omega⟩))
      | false =>
        refine cond_f rfl ?_
        rw [i64_id (by omega) (by omega)]
        refine IndexFunc3_loop hl hs hc fu (i + 1) (by omega) (by omega) fun r hr => hK r ?_
        rw [hr, e]; exact Iff.rfl
    · rw [List.drop_eq_nil_of_le g] at hK
      exact cond_f (by simp; omega) (hK _ (by simp [fails]))
theorem Run_ok {cs : List (List Int)} {c : List Int} (hl : big cs.length) (hs : ∀ s, s ∈ cs → big s.length) (hc : big c.length) {K : Bool → Prop} (hK : K (fails cs c)) : L.f6 cs c K := by
  refine ⟨⟨⟨⟨⟨cs.length + 1, IndexFunc3_loop (K := fun r => K (decide (r ≥ 0))) hl hs hc _ 0 (by omega) (by omega) fun r hr => ?_⟩⟩⟩⟩⟩
  have hr' : (r ≥ 0) ↔ fails cs c = true := by simpa using hr
  have e : decide (r ≥ 0) = fails cs c := dec_bool hr'
  rw [e]; exact hK
def hasB (n : Int) (s : List Int) (k : Int) : Bool := decide (k < n) || has s k
theorem IndexFunc14_loop {s : List Int} {n : Int} {c : List Int} (hl : big s.length) (hc : big c.length) {K : Int → Prop} : ∀ (fu i : Nat), i ≤ s.length → s.length - i < fu → (∀ r : Int, (0 ≤ r ↔ (s.drop i).any (fun k => !hasB n c k) = true) → K r) → L.c6_L1_R s n c (s.length : Int) fu i (K (-1)) K
  | 0, i, _, h, _ => by omega
  | fu + 1, i, hi, h, hK => by
    unfold big at hl
    show L.c6_L1_b s n c _ i _ _ _
    unfold L.c6_L1_b
    rcases Nat.lt_or_ge i s.length with g | g
    · rw [drop_cons 0 g, List.any_cons] at hK
      refine cond_t (by simp; omega) ⟨inB_of (by omega) (by omega), ⟨⟨?_⟩⟩⟩
      simp only [Int.toNat_natCast]
      have go : bif (!hasB n c (s.getD i 0)) then K i else L.c6_L1_R s n c (s.length : Int) fu (i64 ((i : Int) + 1)) (K (-1)) K := by
        cases e : hasB n c (s.getD i 0) with
        | false => exact cond_t rfl (hK _ (by rw [e]; exact ⟨fun _ => rfl, fun _ => by omega⟩))
        | true =>
          refine cond_f rfl ?_
          rw [i64_id (by omega) (by omega)]
          refine IndexFunc14_loop hl hc fu (i + 1) (by omega) (by omega) fun r hr => hK r ?_
          rw [hr, e]; exact Iff.rfl
      by_cases h1 : s.getD i 0 < n
      · refine cond_t (decide_eq_true h1) ?_
        have e : hasB n c (s.getD i 0) = true := by unfold hasB; rw [decide_eq_true h1]; rfl
        rw [e] at go; exact go
      · refine cond_f (decide_eq_false h1) (Contains_ok hc ?_)
        have e : hasB n c (s.getD i 0) = has c (s.getD i 0) := by unfold hasB; rw [decide_eq_false h1]; rfl
        rw [e] at go; exact go
    · rw [List.drop_eq_nil_of_le g] at hK
      exact cond_f (by simp; omega) (hK _ (by simp))
theorem Run12_ok {s : List Int} {n : Int} {c : List Int} (hl : big s.length) (hc : big c.length) {K : Bool → Prop} (hK : K (s.all (hasB n c))) : L.f4 s n c K := by
  refine ⟨⟨⟨⟨⟨s.length + 1, IndexFunc14_loop (K := fun r => K (!decide (r ≥ 0))) hl hc _ 0 (by omega) (by omega) fun r hr => ?_⟩⟩⟩⟩⟩
  have e : (!decide (r ≥ 0)) = s.all (hasB n c) := by
    rw [← all_not_any]
    congr 1
    have hr' : (r ≥ 0) ↔ (s.any fun k => !hasB n c k) = true := by simpa using hr
    rw [dec_bool hr']
  rw [e]; exact hK
def failsB (cs : List (List Int)) (n : Int) (set : List Int) : Bool := cs.any fun s => s.all (hasB n set)
theorem IndexFunc11_loop {cs : List (List Int)} {n : Int} {c : List Int} (hl : big cs.length) (hs : ∀ s, s ∈ cs → big s.length) (hc : big c.length) {K : Int → Prop} : ∀ (fu i : Nat), i ≤ cs.length → cs.length - i < fu → (∀ r : Int, (0 ≤ r ↔ failsB (cs.drop i) n c = true) → K r) → L.d0_L1_R cs n c (cs.length : Int) fu i (K (-1)) K
  | 0, i, _, h, _ => by omega
  | fu + 1, i, hi, h, hK => by
    unfold big at hl
    show L.d0_L1_b cs n c _ i _ _ _
    unfold L.d0_L1_b
    rcases Nat.lt_or_ge i cs.length with g | g
    · unfold failsB at hK
      rw [drop_cons [] g, List.any_cons] at hK
      have hb := hs _ (getD_mem [] g)
      refine cond_t (by simp; omega) ⟨inB_of (by omega) (by omega), ?_⟩
      simp only [Int.toNat_natCast]
      refine Run12_ok hb hc ?_
      cases e : (cs.getD i []).all (hasB n c) with
      | true => exact cond_t rfl (hK _ (by rw [e]; exact ⟨fun _ => rfl, fun _ => by omega⟩))
      | false =>
        refine cond_f rfl ?_
        rw [i64_id (by omega) (by omega)]
        refine IndexFunc11_loop hl hs hc fu (i + 1) (by omega) (by omega) fun r hr => hK r ?_
        rw [hr, e]; exact Iff.rfl
    · rw [List.drop_eq_nil_of_le g] at hK
      exact cond_f (by simp; omega) (hK _ (by simp [failsB]))
theorem below_ok {cs : List (List Int)} {n : Int} {c : List Int} (hl : big cs.length) (hs : ∀ s, s ∈ cs → big s.length) (hc : big c.length) {K : Bool → Prop} (hK : K (failsB cs n c)) : L.e6 cs c n K := by
  refine ⟨⟨⟨⟨⟨⟨cs.length + 1, IndexFunc11_loop (K := fun r => K (decide (r ≥ 0))) hl hs hc _ 0 (by omega) (by omega) fun r hr => ?_⟩⟩⟩⟩⟩⟩
  have hr' : (r ≥ 0) ↔ failsB cs n c = true := by simpa using hr
  have e : decide (r ≥ 0) = failsB cs n c := dec_bool hr'
  rw [e]; exact hK
end Bb
end Go.Proofs.YtnpjonhoihbaeaaGreatDoor
set_option linter.unusedVariables false
namespace Go.Proofs.YtnpjonhoihbaeaaGreatDoor
open Eng
namespace Bb
theorem fits_of {n : Nat} (h : n ≤ 1000) : fits n := by unfold fits; omega
theorem fault0 {a b : Int} (h : (a, b) = ((0, 0) : Int × Int)) : (!((a == 0) && ((b == 0) && true))) = false := by
  cases h; rfl
theorem fault1 {a b : Int} (h : (a, b) ≠ ((0, 0) : Int × Int)) : (!((a == 0) && ((b == 0) && true))) = true := by
  by_cases ha : a = 0
  · by_cases hb : b = 0
    · subst ha; subst hb; exact absurd rfl h
    · simp [ha, hb]
  · simp [ha]
theorem vf_len {n : Int} {cs : List (List Int)} (hv : vf n cs = (0, 0)) : 0 ≤ n ∧ n ≤ 16 ∧ cs.length ≤ 8 := by
  unfold vf at hv
  split at hv
  · cases hv
  · split at hv
    · cases hv
    · omega
theorem big_vf {n : Int} {cs : List (List Int)} (hv : vf n cs = (0, 0)) : big cs.length := by
  have := vf_len hv; unfold big; omega
theorem Clone_ok {s : List Int} (h : s.length ≤ 1000) {K : List Int → Prop} (hK : K s) : L.e3 s K := by
  constructor
  intro b hb
  cases b with
  | true =>
    have : s = [] := by
      cases s with
      | nil => rfl
      | cons a t => exact absurd (hb (by simp)) (by simp)
    subst this; exact hK
  | false => exact ⟨fits_of (by simpa using h), hK⟩
def gr (cs : List (List Int)) (n : Int) : Nat → Int → List Int → List Int
  | 0, _, out => out
  | fu + 1, c, out => if c < n then (bif failsB cs 0 (out ++ [c]) then gr cs n fu (c + 1) out else gr cs n fu (c + 1) (out ++ [c])) else out
theorem Greedy_loop {cs : List (List Int)} {n : Int} (hl : big cs.length) (hs : ∀ s, s ∈ cs → big s.length) {K : List Int → Prop} : ∀ (fu : Nat) (c : Int) (out : List Int), 0 ≤ c → n ≤ 16 → n - c ≤ fu → out.length + fu ≤ 100 →
    K (gr cs n fu c out) → L.b8_L1_R cs n (fu + 1) c out K
  | 0, c, out, h0, h1, h2, h3, hK => by
    show L.b8_L1_b cs n c out _ _
    unfold L.b8_L1_b
    exact cond_f (decide_eq_false (by omega)) hK
  | fu + 1, c, out, h0, h1, h2, h3, hK => by
    show L.b8_L1_b cs n c out _ _
    unfold L.b8_L1_b
    rw [gr] at hK
    by_cases g : c < n
    · rw [if_pos g] at hK
      rw [i64_id (n := c + 1) (by omega) (by omega)]
      refine cond_t (decide_eq_true g) (Clone_ok (by omega) ⟨fits_of (by simp; omega), below_ok hl hs (by unfold big; simp; omega) ?_⟩)
      cases e : failsB cs 0 (out ++ [c]) with
      | true => rw [e] at hK; exact cond_f rfl (Greedy_loop hl hs fu _ _ (by omega) h1 (by omega) (by omega) hK)
      | false => rw [e] at hK; exact cond_t rfl (Greedy_loop hl hs fu _ _ (by omega) h1 (by omega) (by simp; omega) hK)
    · rw [if_neg g] at hK
      exact cond_f (decide_eq_false g) hK
theorem Greedy_ok {n : Int} {cs : List (List Int)} (hs : ∀ s, s ∈ cs → big s.length) (hv : vf n cs = (0, 0)) {K : List Int → Int → Int → Prop} (hK : K (gr cs n 16 0 []) 0 0) : L.b8 n cs K := by
  have hn := vf_len hv
  exact ⟨Validate_ok hs (cond_f (fault0 hv) ⟨⟨17, Greedy_loop (K := fun out => K out 0 0) (big_vf hv) hs 16 0 [] (by omega) (by omega) (by omega) (by simp) hK⟩⟩)⟩
theorem Greedy_bad {n : Int} {cs : List (List Int)} (hs : ∀ s, s ∈ cs → big s.length) (hv : vf n cs ≠ (0, 0)) {K : List Int → Int → Int → Prop} (hK : K [] (vf n cs).1 (vf n cs).2) : L.b8 n cs K :=
  ⟨Validate_ok hs (cond_t (fault1 hv) hK)⟩
theorem Equal_loop {a b : List Int} (hl : big a.length) (he : a.length = b.length) {K : Bool → Prop} : ∀ (fu i : Nat), i ≤ a.length → a.length - i < fu → K (decide (a.drop i = b.drop i)) → L.c1_L1_R a b fu i (K true) K
  | 0, i, _, h, _ => by omega
  | fu + 1, i, hi, h, hK => by
    unfold big at hl
    show L.c1_L1_b a b i _ _ _
    unfold L.c1_L1_b
    rcases Nat.lt_or_ge i a.length with g | g
    · rw [drop_cons 0 g, drop_cons (l := b) 0 (by omega)] at hK
      refine cond_t (by simp; omega) ⟨inB_of (by omega) (by omega), inB_of (by omega) (by omega), ?_⟩
      simp only [Int.toNat_natCast]
      by_cases c : a.getD i 0 = b.getD i 0
      · refine cond_f (by rw [c]; simp) ?_
        rw [i64_id (by omega) (by omega)]
        refine Equal_loop hl he fu (i + 1) (by omega) (by omega) ?_
        rw [c] at hK
        have e : decide (b.getD i 0 :: a.drop (i + 1) = b.getD i 0 :: b.drop (i + 1)) = decide (a.drop (i + 1) = b.drop (i + 1)) := by
          exact decide_eq_decide.mpr (by simp)
        rw [e] at hK; exact hK
      · refine cond_t (by simpa using c) ?_
        rw [decide_eq_false (fun h => c (List.cons.inj h).1)] at hK; exact hK
    · rw [List.drop_eq_nil_of_le g, List.drop_eq_nil_of_le (show b.length ≤ i by omega)] at hK
      exact cond_f (by simp; omega) hK
theorem Equal_ok {a b : List Int} (hl : big a.length) {K : Bool → Prop} (hK : K (decide (a = b))) : L.c1 a b K := by
  constructor
  unfold L.c1_B
  by_cases e : a.length = b.length
  · exact cond_f (by simp; omega) ⟨⟨a.length + 1, Equal_loop hl e _ 0 (by omega) (by omega) hK⟩⟩
  · rw [decide_eq_false (by intro h; exact e (by rw [h]))] at hK
    exact cond_t (by simp; omega) hK
theorem Has_loop {s : List Int} {v : Int} (hl : big s.length) {K : Bool → Prop} : ∀ (fu i : Nat), i ≤ s.length → s.length - i < fu → K (has (s.drop i) v) → L.d6_L1_R s v fu i (K false) K
  | 0, i, _, h, _ => by omega
  | fu + 1, i, hi, h, hK => by
    unfold big at hl
    show L.d6_L1_b s v i _ _ _
    unfold L.d6_L1_b
    rcases Nat.lt_or_ge i s.length with g | g
    · rw [drop_cons 0 g] at hK
      refine cond_t (by simp; omega) ⟨inB_of (by omega) (by omega), ?_⟩
      simp only [Int.toNat_natCast]
      by_cases c : s.getD i 0 = v
      · refine cond_t (by simpa using c) ?_
        rw [c] at hK
        rwa [show has (v :: s.drop (i + 1)) v = true from decide_eq_true (by simp)] at hK
      · refine cond_f (by simpa using c) ?_
        rw [i64_id (by omega) (by omega)]
        refine Has_loop hl fu (i + 1) (by omega) (by omega) ?_
        have e : has (s.getD i 0 :: s.drop (i + 1)) v = has (s.drop (i + 1)) v := by
          unfold has
          refine decide_eq_decide.mpr ?_
          rw [List.mem_cons]
          exact ⟨fun h => h.resolve_left (fun h => c h.symm), .inr⟩
        rwa [e] at hK
    · rw [List.drop_eq_nil_of_le g] at hK
      exact cond_f (by simp; omega) hK
theorem Has_ok {s : List Int} {v : Int} (hl : big s.length) {K : Bool → Prop} (hK : K (has s v)) : L.d6 s v K :=
  ⟨⟨⟨s.length + 1, Has_loop hl _ 0 (by omega) (by omega) hK⟩⟩⟩
end Bb
end Go.Proofs.YtnpjonhoihbaeaaGreatDoor
set_option linter.unusedVariables false
set_option maxRecDepth 100000
namespace Go.Proofs.YtnpjonhoihbaeaaGreatDoor
open Eng
namespace Bb
theorem lc_mem {n : Int} : ∀ {s : List Int} {p : Int}, lc n p s = 0 → ∀ k, k ∈ s → 0 ≤ k ∧ k < n ∧ p < k
  | [], _, _, k, hk => by cases hk
  | a :: t, p, h, k, hk => by
    rw [lc] at h
    split at h
    · omega
    · split at h
      · omega
      · rcases List.mem_cons.mp hk with e | e
        · omega
        · have := lc_mem h k e; omega
theorem cf_ok {n : Int} : ∀ {cs : List (List Int)} {i : Int}, (cf n i cs).1 = 0 → ∀ s, s ∈ cs → s ≠ [] ∧ lc n (-1) s = 0
  | [], _, _, s, hs => by cases hs
  | a :: t, i, h, s, hs => by
    rw [cf] at h
    split at h
    · cases h
    · split at h
      · rename_i h1 h2; exact absurd h h2
      · rename_i h1 h2
        rcases List.mem_cons.mp hs with e | e
        · subst e; exact ⟨h1, Decidable.of_not_not h2⟩
        · exact cf_ok h s e
theorem cf_zero {n : Int} : ∀ {cs : List (List Int)} {i : Int}, (cf n i cs).1 = 0 → cf n i cs = (0, 0)
  | [], _, _ => rfl
  | a :: t, i, h => by
    rw [cf] at h ⊢
    split at h
    · cases h
    · split at h
      · rename_i h1 h2; exact absurd h h2
      · rename_i h1 h2
        rw [if_neg h1, if_neg h2]; exact cf_zero h
theorem vf_zero {n : Int} {cs : List (List Int)} (h : (vf n cs).1 = 0) : vf n cs = (0, 0) := by
  unfold vf at h ⊢
  split at h
  · cases h
  · rename_i h1
    split at h
    · cases h
    · rename_i h2
      rw [if_neg h1, if_neg h2]; exact cf_zero h
def good (n : Int) (cs : List (List Int)) : Prop := ∀ s, s ∈ cs → s ≠ [] ∧ ∀ k, k ∈ s → 0 ≤ k ∧ k < n
theorem good_of {n : Int} {cs : List (List Int)} (h : vf n cs = (0, 0)) : good n cs := by
  unfold vf at h
  split at h
  · cases h
  · split at h
    · cases h
    · intro s hs
      have := cf_ok (by rw [h]) s hs
      exact ⟨this.1, fun k hk => by have := lc_mem this.2 k hk; omega⟩
theorem fails_iff {cs : List (List Int)} {m : List Int} : fails cs m = true ↔ ∃ s, s ∈ cs ∧ ∀ k, k ∈ s → k ∈ m := by
  unfold fails has
  simp
theorem failsB_iff {cs : List (List Int)} {n : Int} {m : List Int} : failsB cs n m = true ↔ ∃ s, s ∈ cs ∧ ∀ k, k ∈ s → k < n ∨ k ∈ m := by
  unfold failsB hasB has
  simp
theorem bool_iff {a b : Bool} (h : a = true ↔ b = true) : a = b := by
  cases a <;> cases b <;> simp_all
theorem failsB0 {n : Int} {cs : List (List Int)} (hg : good n cs) (m : List Int) : failsB cs 0 m = fails cs m := by
  apply bool_iff
  rw [failsB_iff, fails_iff]
  constructor
  · rintro ⟨s, hs, h⟩
    exact ⟨s, hs, fun k hk => (h k hk).resolve_left (by have := (hg s hs).2 k hk; omega)⟩
  · rintro ⟨s, hs, h⟩
    exact ⟨s, hs, fun k hk => .inr (h k hk)⟩
end Bb
end Go.Proofs.YtnpjonhoihbaeaaGreatDoor
set_option linter.unusedVariables false
set_option linter.unusedSimpArgs false
namespace Go.Proofs.YtnpjonhoihbaeaaGreatDoor
open Eng Bb
namespace Tp
abbrev Txt := List ByteArray
abbrev File := ByteArray × List ByteArray
abbrev Tree := List File
abbrev Hunk := Int × (List ByteArray × List ByteArray)
abbrev Chg := Int × (ByteArray × (ByteArray × (List ByteArray × List Hunk)))
abbrev Patch := List Chg
abbrev noFile : File := (ByteArray.empty, [])
abbrev noChg : Chg := (0, (ByteArray.empty, (ByteArray.empty, ([], []))))
def sec (f : Int × Int) (i : Int) : Int × Int := if f = (0, 0) then (0, 0) else (f.1, i)
def linL : Nat → Txt → Int × Int
  | _, [] => (0, 0)
  | i, s :: r => if 80 < s.size then (2, i) else if 0 ≤ La.idx_R s 10 then (5, i) else linL (i + 1) r
def lin (l : Txt) : Int × Int := if 120 < l.length then (2, -1) else linL 0 l
theorem lin_loop {l : Txt} (hl : l.length ≤ 120) {K : Int → Int → Prop} : ∀ (fu i : Nat), i ≤ l.length → l.length - i < fu → K (linL i (l.drop i)).1 (linL i (l.drop i)).2 → L.c0_L1_R l (l.length : Int) fu i (K 0 0) K
  | 0, i, _, h, _ => by omega
  | fu + 1, i, hi, h, hK => by
    show L.c0_L1_b l _ i _ _ _
    unfold L.c0_L1_b
    rcases Nat.lt_or_ge i l.length with g | g
    · rw [drop_cons ByteArray.empty g, linL] at hK
      refine cond_t (by simp; omega) ⟨inB_of (by omega) (by omega), ?_⟩
      simp only [Int.toNat_natCast]
      by_cases c1 : 80 < (l.getD i ByteArray.empty).size
      · rw [if_pos c1] at hK; exact cond_t (decide_eq_true (by omega)) hK
      · rw [if_neg c1] at hK
        refine cond_f (decide_eq_false (by omega)) ⟨?_⟩
        show (bif decide (La.idx_R (l.getD i ByteArray.empty) 10 ≥ 0) then K 5 i else _)
        by_cases c2 : 0 ≤ La.idx_R (l.getD i ByteArray.empty) 10
        · rw [if_pos c2] at hK; exact cond_t (decide_eq_true c2) hK
        · rw [if_neg c2] at hK
          refine cond_f (decide_eq_false c2) ?_
          rw [i64_id (by omega) (by omega)]
          exact lin_loop hl fu (i + 1) (by omega) (by omega) hK
    · rw [List.drop_eq_nil_of_le g] at hK
      exact cond_f (by simp; omega) hK
theorem lin_ok {l : Txt} {K : Int → Int → Prop} (hK : K (lin l).1 (lin l).2) : L.c0 l K := by
  constructor
  unfold L.c0_B
  unfold lin at hK
  by_cases c : 120 < l.length
  · rw [if_pos c] at hK; exact cond_t (by simp; omega) hK
  · rw [if_neg c] at hK
    exact cond_f (by simp; omega) ⟨⟨l.length + 1, lin_loop (by omega) _ 0 (by omega) (by omega) hK⟩⟩
theorem sec_ok {f : Int × Int} {i : Int} {K : Int → Int → Prop} (hK : K (sec f i).1 (sec f i).2) : (bif (!((f.1 == 0) && ((f.2 == 0) && true))) then K f.1 i else K 0 0) := by
  unfold sec at hK
  by_cases c : f = (0, 0)
  · rw [if_pos c] at hK; exact cond_f (fault0 (by rw [← c])) hK
  · rw [if_neg c] at hK; exact cond_t (fault1 (by exact c)) hK
theorem linS_ok {l : Txt} {i : Int} {K : Int → Int → Prop} (hK : K (sec (lin l) i).1 (sec (lin l) i).2) : L.g1 l i K := ⟨lin_ok (sec_ok hK)⟩
def hp (a p : ByteArray) : Bool := decide (p.size ≤ a.size) && ((a.extract 0 p.size).toList == p.toList)
theorem hp_ok {a p : ByteArray} {K : Bool → Prop} (hK : K (hp a p)) : L.f8 a p K := by
  refine ⟨⟨fun h => ⟨by omega, ?_⟩, ?_⟩⟩
  · simp at h; omega
  · unfold hp at hK
    by_cases c : p.size ≤ a.size
    · rw [decide_eq_true c, Bool.true_and] at hK
      rw [decide_eq_true (by omega), cond_true, Int.toNat_natCast]; exact hK
    · rw [decide_eq_false c, Bool.false_and] at hK
      rw [decide_eq_false (by omega), cond_false]; exact hK
def rel (a b : ByteArray) : Bool := (a.toList == b.toList) || (hp a (b ++ L.str3) || hp b (a ++ L.str3))
theorem size_ok {a : ByteArray} (h : a.size ≤ 60) : ((a.size + L.str3.size : Nat) : Int) ≤ IntKind.i64.max := by
  have : L.str3.size = 1 := rfl
  rw [this]
  have : IntKind.i64.max = 9223372036854775807 := by decide
  omega
theorem rel_ok {a b : ByteArray} (ha : a.size ≤ 60) (hb : b.size ≤ 60) {K : Bool → Prop} (hK : K (rel a b)) : L.f7 a b K := by
  refine ⟨⟨fun _ => size_ok hb, ?_⟩⟩
  unfold rel at hK
  cases c1 : (a.toList == b.toList) with
  | true => rw [c1, Bool.true_or] at hK; exact ⟨fun _ => size_ok ha, hK⟩
  | false =>
    rw [c1, Bool.false_or] at hK
    refine hp_ok ⟨fun _ => size_ok ha, ?_⟩
    simp only [cond_false]
    cases c2 : hp a (b ++ L.str3) with
    | true => rw [c2, Bool.true_or] at hK; exact hK
    | false => rw [c2, Bool.false_or] at hK; exact hp_ok hK
def Inv (t : Tree) : Prop := t.length ≤ 24 ∧ ∀ f, f ∈ t → f.1.size ≤ 60 ∧ f.2.length ≤ 120
def Pth (t : Tree) : Prop := ∀ f, f ∈ t → f.1.size ≤ 60
def clashL (path : ByteArray) (ex : Int) : Nat → Tree → Bool
  | _, [] => false
  | i, f :: r => if (i : Int) != ex && rel f.1 path then true else clashL path ex (i + 1) r
def clash (t : Tree) (path : ByteArray) (ex : Int) : Bool := clashL path ex 0 t
theorem clash_loop {t : Tree} {path : ByteArray} {ex : Int} (hl : t.length ≤ 24) (hp : Pth t) (hq : path.size ≤ 60) {K : Bool → Prop} : ∀ (fu i : Nat), i ≤ t.length → t.length - i < fu → K (clashL path ex i (t.drop i)) → L.a4_L1_R path ex t (t.length : Int) fu i (K false) K
  | 0, i, _, h, _ => by omega
  | fu + 1, i, hi, h, hK => by
    show L.a4_L1_b path ex t _ i _ _ _
    unfold L.a4_L1_b
    rcases Nat.lt_or_ge i t.length with g | g
    · rw [drop_cons noFile g, clashL] at hK
      refine cond_t (by simp; omega) ⟨inB_of (by omega) (by omega), ?_⟩
      simp only [Int.toNat_natCast]
      have next : K (clashL path ex (i + 1) (t.drop (i + 1))) → L.a4_L1_R path ex t (t.length : Int) fu (i64 ((i : Int) + 1)) (K false) K := fun hK => by
        rw [i64_id (by omega) (by omega)]
        exact clash_loop hl hp hq fu (i + 1) (by omega) (by omega) hK
      cases c1 : ((i : Int) != ex) with
      | false =>
        rw [c1, Bool.false_and] at hK
        exact cond_f rfl ⟨cond_f rfl (next hK)⟩
      | true =>
        refine cond_t rfl (rel_ok (hp _ (getD_mem noFile g)) hq ⟨?_⟩)
        rw [c1, Bool.true_and] at hK
        show (bif rel _ _ then K true else _)
        cases c2 : rel (t.getD i noFile).1 path with
        | true => rw [c2] at hK; exact cond_t rfl hK
        | false => rw [c2] at hK; exact cond_f rfl (next hK)
    · rw [List.drop_eq_nil_of_le g] at hK
      exact cond_f (by simp; omega) hK
theorem clash_ok {t : Tree} {path : ByteArray} {ex : Int} (hl : t.length ≤ 24) (hp : Pth t) (hq : path.size ≤ 60) {K : Bool → Prop} (hK : K (clash t path ex)) : L.a4 t path ex K :=
  ⟨⟨⟨t.length + 1, clash_loop hl hp hq _ 0 (by omega) (by omega) hK⟩⟩⟩
def le (a b : ByteArray) : Bool := Op.bytesLess a.toList b.toList || (a.toList == b.toList)
def valL (t : Tree) : Nat → Tree → Int × Int
  | _, [] => (0, 0)
  | i, f :: r => if La.vp_R f.1 = false then (12, i) else if (decide (0 < i) && le f.1 (t.getD (i - 1) noFile).1) = true then (5, i) else if clash (t.take i) f.1 (-1) = true then (7, i)
    else if sec (lin f.2) i = (0, 0) then valL t (i + 1) r else sec (lin f.2) i
def val (t : Tree) : Int × Int := if 24 < t.length then (2, -1) else valL t 0 t
theorem vp_size {s : ByteArray} (h : La.vp_R s = true) : s.size ≤ 60 := by
  unfold La.vp_R at h
  simp only [Bool.and_eq_true, decide_eq_true_eq] at h
  exact h.1
theorem val_loop {t : Tree} (hl : t.length ≤ 24) {K : Int → Int → Prop} : ∀ (fu i : Nat), i ≤ t.length → t.length - i < fu → Pth (t.take i) → K (valL t i (t.drop i)).1 (valL t i (t.drop i)).2 → L.c8_L1_R t (t.length : Int) t fu i (K 0 0) K
  | 0, i, _, h, _, _ => by omega
  | fu + 1, i, hi, h, hp, hK => by
    show L.c8_L1_b t _ t i _ _ _
    unfold L.c8_L1_b
    rcases Nat.lt_or_ge i t.length with g | g
    · rw [drop_cons noFile g, valL] at hK
      refine cond_t (by simp; omega) ⟨inB_of (by omega) (by omega), ⟨?_⟩⟩
      simp only [Int.toNat_natCast]
      show (bif (!La.vp_R _) then _ else _)
      cases c1 : La.vp_R (t.getD i noFile).1 with
      | false => rw [if_pos c1] at hK; exact cond_t rfl hK
      | true =>
        rw [if_neg (by rw [c1]; decide)] at hK
        have e1 : (decide ((i : Int) > 0)) = decide (0 < i) := by simp
        refine cond_f rfl ⟨fun h0 => ?_, ?_⟩
        · simp at h0
          rw [i64_id (by omega) (by omega)]
          exact inB_of (by omega) (by omega)
        · rw [e1]
          have c2' : (bif decide (0 < i) then (Op.bytesLess (t.getD i noFile).1.toList (t.getD (i64 ((i : Int) - 1)).toNat noFile).1.toList || ((t.getD i noFile).1.toList == (t.getD (i64 ((i : Int) - 1)).toNat noFile).1.toList)) else false) = (decide (0 < i) && le (t.getD i noFile).1 (t.getD (i - 1) noFile).1) := by
            by_cases h0 : 0 < i
            · have e2 : (i64 ((i : Int) - 1)).toNat = i - 1 := by rw [i64_id (by omega) (by omega)]; omega
              rw [decide_eq_true h0, e2]; rfl
            · rw [decide_eq_false h0]; rfl
          rw [c2']
          cases c2 : (decide (0 < i) && le (t.getD i noFile).1 (t.getD (i - 1) noFile).1) with
          | true => rw [if_pos c2] at hK; exact hK
          | false =>
            rw [if_neg (by rw [c2]; decide)] at hK
            refine ⟨⟨by omega, by omega⟩, clash_ok (by simp; omega) hp (vp_size c1) ?_⟩
            cases c3 : clash (t.take i) (t.getD i noFile).1 (-1) with
            | true => rw [if_pos c3] at hK; exact cond_t rfl hK
            | false =>
              rw [if_neg (by rw [c3]; decide)] at hK
              refine cond_f rfl (linS_ok ?_)
              by_cases c4 : sec (lin (t.getD i noFile).2) i = (0, 0)
              · rw [if_pos c4] at hK
                refine cond_f (fault0 (by exact c4)) ?_
                rw [i64_id (by omega) (by omega)]
                refine val_loop hl fu (i + 1) (by omega) (by omega) (fun f hf => ?_) hK
                rw [List.take_succ_eq_append_getElem g] at hf
                rcases List.mem_append.1 hf with hf | hf
                · exact hp f hf
                · rw [List.mem_singleton.1 hf]
                  rw [List.getD_eq_getElem?_getD, List.getElem?_eq_getElem g] at c1
                  exact vp_size c1
              · rw [if_neg c4] at hK
                exact cond_t (fault1 (by exact c4)) hK
    · rw [List.drop_eq_nil_of_le g] at hK
      exact cond_f (by simp; omega) hK
theorem val_ok {t : Tree} {K : Int → Int → Prop} (hK : K (val t).1 (val t).2) : L.c8 t K := by
  constructor
  unfold L.c8_B
  unfold val at hK
  by_cases c : 24 < t.length
  · rw [if_pos c] at hK; exact cond_t (by simp; omega) hK
  · rw [if_neg c] at hK
    exact cond_f (by simp; omega) ⟨⟨t.length + 1, val_loop (by omega) _ 0 (by omega) (by omega) (fun f hf => by simp at hf) hK⟩⟩
theorem valS_ok {t : Tree} {i : Int} {K : Int → Int → Prop} (hK : K (sec (val t) i).1 (sec (val t) i).2) : L.f9 t i K := ⟨val_ok (sec_ok hK)⟩
end Tp
end Go.Proofs.YtnpjonhoihbaeaaGreatDoor
set_option linter.unusedVariables false
set_option linter.unusedSimpArgs false
namespace Go.Proofs.YtnpjonhoihbaeaaGreatDoor
open Eng Bb
namespace Tp
abbrev noHunk : Hunk := (0, ([], []))
theorem lin_len {l : Txt} (h : lin l = (0, 0)) : l.length ≤ 120 := by
  unfold lin at h
  by_cases c : 120 < l.length
  · rw [if_pos c] at h; simp at h
  · omega
def hk (h : Hunk) (e : Int) : Int :=
  if h.1 < 0 ∨ 120 < h.1 then 3 else if lin h.2.1 ≠ (0, 0) then (lin h.2.1).1 else if lin h.2.2 ≠ (0, 0) then (lin h.2.2).1 else
    if h.2.1.length + h.2.2.length = 0 ∨ h.1 ≤ e then 5 else if 120 < h.1 + h.2.1.length then 3 else 0
theorem end_ok {h : Hunk} (h0 : 0 ≤ h.1) (h1 : h.1 ≤ 120) (h2 : h.2.1.length ≤ 120) {K : Int → Prop} (hK : K (h.1 + h.2.1.length)) : L.f2 h.1 h.2.1 h.2.2 K := by
  constructor
  unfold L.f2_B
  rw [i64_id (by omega) (by omega)]; exact hK
theorem hk_ok {h : Hunk} {e : Int} {K : Int → Prop} (hK : K (hk h e)) : L.b9 h.1 h.2.1 h.2.2 e K := by
  constructor
  unfold L.b9_B
  unfold hk at hK
  by_cases c1 : h.1 < 0 ∨ 120 < h.1
  · rw [if_pos c1] at hK
    exact cond_t (by simp only [bor, Bool.or_eq_true, decide_eq_true_eq]; omega) hK
  · rw [if_neg c1] at hK
    refine cond_f (by simp only [bor, Bool.or_eq_false_iff, decide_eq_false_iff_not]; omega) ⟨⟨3, ?_⟩⟩
    show L.b9_L1_b h.2.1 h.2.2 0 _ _ _
    unfold L.b9_L1_b
    refine cond_t rfl ⟨inB_of (by omega) (by omega), lin_ok ?_⟩
    show (bif (!(((lin h.2.1).1 == 0) && (((lin h.2.1).2 == 0) && true))) then K (lin h.2.1).1 else _)
    by_cases c2 : lin h.2.1 ≠ (0, 0)
    · rw [if_pos c2] at hK
      exact cond_t (fault1 (by exact c2)) hK
    · rw [if_neg c2] at hK
      have c2' : lin h.2.1 = (0, 0) := by simpa using c2
      refine cond_f (fault0 (by exact c2')) ?_
      show L.b9_L1_b h.2.1 h.2.2 1 _ _ _
      unfold L.b9_L1_b
      refine cond_t rfl ⟨inB_of (by omega) (by omega), lin_ok ?_⟩
      show (bif (!(((lin h.2.2).1 == 0) && (((lin h.2.2).2 == 0) && true))) then K (lin h.2.2).1 else _)
      by_cases c3 : lin h.2.2 ≠ (0, 0)
      · rw [if_pos c3] at hK
        exact cond_t (fault1 (by exact c3)) hK
      · rw [if_neg c3] at hK
        have c3' : lin h.2.2 = (0, 0) := by simpa using c3
        refine cond_f (fault0 (by exact c3')) ?_
        show L.b9_L1_b h.2.1 h.2.2 2 _ _ _
        unfold L.b9_L1_b
        refine cond_f rfl ?_
        have l1 := lin_len c2'
        have l2 := lin_len c3'
        rw [i64_id (by omega) (by omega)]
        by_cases c4 : h.2.1.length + h.2.2.length = 0 ∨ h.1 ≤ e
        · rw [if_pos c4] at hK
          exact cond_t (by simp only [bor, Bool.or_eq_true, decide_eq_true_eq, beq_iff_eq]; omega) hK
        · rw [if_neg c4] at hK
          refine cond_f (by simp only [bor, Bool.or_eq_false_iff, decide_eq_false_iff_not, beq_eq_false_iff_ne]; omega) (end_ok (by omega) (by omega) l1 ?_)
          by_cases c5 : 120 < h.1 + h.2.1.length
          · rw [if_pos c5] at hK; exact cond_t (decide_eq_true (by omega)) hK
          · rw [if_neg c5] at hK; exact cond_f (decide_eq_false (by omega)) hK
theorem hk_zero {h : Hunk} {e : Int} (hz : hk h e = 0) (hc : ∀ l : Txt, (lin l).1 = 0 → lin l = (0, 0)) : 0 ≤ h.1 ∧ h.1 ≤ 120 ∧ e < h.1 ∧ h.2.1.length ≤ 120 ∧ h.2.2.length ≤ 120 ∧ h.1 + h.2.1.length ≤ 120 := by
  unfold hk at hz
  by_cases c1 : h.1 < 0 ∨ 120 < h.1
  · rw [if_pos c1] at hz; omega
  rw [if_neg c1] at hz
  by_cases c2 : lin h.2.1 ≠ (0, 0)
  · rw [if_pos c2] at hz; exact absurd (hc _ hz) c2
  rw [if_neg c2] at hz
  by_cases c3 : lin h.2.2 ≠ (0, 0)
  · rw [if_pos c3] at hz; exact absurd (hc _ hz) c3
  rw [if_neg c3] at hz
  by_cases c4 : h.2.1.length + h.2.2.length = 0 ∨ h.1 ≤ e
  · rw [if_pos c4] at hz; omega
  rw [if_neg c4] at hz
  by_cases c5 : 120 < h.1 + h.2.1.length
  · rw [if_pos c5] at hz; omega
  have l1 := lin_len (by simpa using c2)
  have l2 := lin_len (by simpa using c3)
  omega
theorem linL_zero : ∀ (l : Txt) (i : Nat), (linL i l).1 = 0 → linL i l = (0, 0)
  | [], i, _ => rfl
  | s :: r, i, h => by
    unfold linL at h ⊢
    by_cases c1 : 80 < s.size
    · rw [if_pos c1] at h; simp at h
    · rw [if_neg c1] at h ⊢
      by_cases c2 : 0 ≤ La.idx_R s 10
      · rw [if_pos c2] at h; simp at h
      · rw [if_neg c2] at h ⊢; exact linL_zero r _ h
theorem lin_zero (l : Txt) (h : (lin l).1 = 0) : lin l = (0, 0) := by
  unfold lin at h ⊢
  by_cases c : 120 < l.length
  · rw [if_pos c] at h; simp at h
  · rw [if_neg c] at h ⊢; exact linL_zero _ _ h
def tpL : Int → Nat → List Hunk → Int × Int
  | _, _, [] => (0, 0)
  | e, i, h :: r => if hk h e ≠ 0 then (hk h e, i) else tpL (h.1 + h.2.1.length) (i + 1) r
def tpV (p : List Hunk) : Int × Int := if 130 < p.length then (2, -1) else tpL (-1) 0 p
theorem tpV_loop {p : List Hunk} (hl : p.length ≤ 130) {K : Int → Int → Prop} : ∀ (fu i : Nat) (e : Int), i ≤ p.length → p.length - i < fu → K (tpL e i (p.drop i)).1 (tpL e i (p.drop i)).2 → L.c4_L1_R p (p.length : Int) fu e i (K 0 0) K
  | 0, i, _, _, h, _ => by omega
  | fu + 1, i, e, hi, h, hK => by
    show L.c4_L1_b p _ e i _ _ _
    unfold L.c4_L1_b
    rcases Nat.lt_or_ge i p.length with g | g
    · rw [drop_cons noHunk g, tpL] at hK
      refine cond_t (by simp; omega) ⟨inB_of (by omega) (by omega), ?_⟩
      simp only [Int.toNat_natCast]
      refine hk_ok (h := p.getD i noHunk) ?_
      by_cases c : hk (p.getD i noHunk) e ≠ 0
      · rw [if_pos c] at hK; exact cond_t (by simpa using c) hK
      · rw [if_neg c] at hK
        have c' : hk (p.getD i noHunk) e = 0 := by simpa using c
        obtain ⟨a1, a2, a3, a4, a5, a6⟩ := hk_zero c' lin_zero
        refine cond_f (by simpa using c') (end_ok (h := p.getD i noHunk) a1 a2 a4 ?_)
        rw [i64_id (by omega) (by omega)]
        exact tpV_loop hl fu (i + 1) _ (by omega) (by omega) hK
    · rw [List.drop_eq_nil_of_le g] at hK
      exact cond_f (by simp; omega) hK
theorem tpV_ok {p : List Hunk} {K : Int → Int → Prop} (hK : K (tpV p).1 (tpV p).2) : L.c4 p K := by
  constructor
  unfold L.c4_B
  unfold tpV at hK
  by_cases c : 130 < p.length
  · rw [if_pos c] at hK; exact cond_t (by simp; omega) hK
  · rw [if_neg c] at hK
    exact cond_f (by simp; omega) ⟨⟨p.length + 1, tpV_loop (by omega) _ 0 _ (by omega) (by omega) hK⟩⟩
def eqL : Txt → Txt → Bool
  | a :: r, b :: s => (a.toList == b.toList) && eqL r s
  | [], [] => true
  | _, _ => false
theorem eq_loop {a b : Txt} (hl : a.length ≤ 120) (he : a.length = b.length) {K : Bool → Prop} : ∀ (fu i : Nat), i ≤ a.length → a.length - i < fu → K (eqL (a.drop i) (b.drop i)) → L.c5_L1_R a b (a.length : Int) fu i (K true) K
  | 0, i, _, h, _ => by omega
  | fu + 1, i, hi, h, hK => by
    show L.c5_L1_b a b _ i _ _ _
    unfold L.c5_L1_b
    rcases Nat.lt_or_ge i a.length with g | g
    · rw [drop_cons ByteArray.empty g, drop_cons ByteArray.empty (show i < b.length by omega), eqL] at hK
      refine cond_t (by simp; omega) ⟨inB_of (by omega) (by omega), inB_of (by omega) (by omega), ?_⟩
      simp only [Int.toNat_natCast]
      cases c : ((a.getD i ByteArray.empty).toList == (b.getD i ByteArray.empty).toList) with
      | false => rw [c] at hK; exact hK
      | true =>
        rw [c] at hK
        refine cond_f rfl ?_
        rw [i64_id (by omega) (by omega)]
        exact eq_loop hl he fu (i + 1) (by omega) (by omega) hK
    · rw [List.drop_eq_nil_of_le g, List.drop_eq_nil_of_le (by omega)] at hK
      exact cond_f (by simp; omega) hK
theorem eqL_len : ∀ {a b : Txt}, a.length ≠ b.length → eqL a b = false
  | [], [], h => absurd rfl h
  | [], _ :: _, _ => rfl
  | _ :: _, [], _ => rfl
  | a :: r, b :: s, h => by
    have : r.length ≠ s.length := fun e => h (by simp [e])
    rw [eqL, eqL_len this, Bool.and_false]
theorem eq_ok {a b : Txt} (hl : a.length ≤ 120) {K : Bool → Prop} (hK : K (eqL a b)) : L.c5 a b K := by
  constructor
  unfold L.c5_B
  by_cases c : a.length = b.length
  · exact cond_f (by simp [c]) ⟨⟨a.length + 1, eq_loop hl c _ 0 (by omega) (by omega) hK⟩⟩
  · rw [eqL_len c] at hK
    exact cond_t (by simp; omega) hK
def oc (text part : Txt) (k : Int) : Bool := decide (0 ≤ k ∧ k ≤ text.length ∧ (part.length : Int) ≤ text.length - k) && eqL ((text.take (k + part.length).toNat).drop k.toNat) part
theorem oc_ok {text part : Txt} {k : Int} (ht : text.length ≤ 120) (hp : part.length ≤ 120) (h0 : 0 ≤ k) (h1 : k ≤ 120) {K : Bool → Prop} (hK : K (oc text part k)) : L.g0 text part k K := by
  constructor
  unfold L.g0_B
  rw [i64_id (n := (text.length : Int) - k) (by omega) (by omega), i64_id (n := k + (part.length : Int)) (by omega) (by omega)]
  unfold oc at hK
  by_cases c : 0 ≤ k ∧ k ≤ text.length ∧ (part.length : Int) ≤ text.length - k
  · have e : (bif (bif (decide (k ≥ 0)) then (decide (k ≤ (text.length : Int))) else false) then (decide ((part.length : Int) ≤ ((text.length : Int) - k))) else false) = true := by
      rw [decide_eq_true (by omega), decide_eq_true (by omega), decide_eq_true (by omega)]; rfl
    rw [e]
    rw [decide_eq_true c, Bool.true_and] at hK
    exact ⟨fun _ => by omega, eq_ok (by simp; omega) hK⟩
  · have e : (bif (bif (decide (k ≥ 0)) then (decide (k ≤ (text.length : Int))) else false) then (decide ((part.length : Int) ≤ ((text.length : Int) - k))) else false) = false := by
      by_cases q1 : k ≥ 0
      · by_cases q2 : k ≤ (text.length : Int)
        · rw [decide_eq_true q1, decide_eq_true q2, decide_eq_false (by omega)]; rfl
        · rw [decide_eq_true q1, decide_eq_false q2]; rfl
      · rw [decide_eq_false q1]; rfl
    rw [e]
    rw [decide_eq_false c, Bool.false_and] at hK
    exact ⟨fun h => by simp at h, hK⟩
def rawL (text : Txt) : Int → List Hunk → Txt → Txt
  | low, [], out => out ++ (text.take text.length).drop low.toNat
  | low, h :: r, out => rawL text (h.1 + h.2.1.length) r ((out ++ (text.take h.1.toNat).drop low.toNat) ++ h.2.2)
def Run (text : Txt) : Int → List Hunk → Prop
  | low, [] => 0 ≤ low ∧ low ≤ text.length
  | low, h :: r => 0 ≤ low ∧ low ≤ h.1 ∧ h.1 ≤ text.length ∧ h.1 ≤ 120 ∧ h.2.1.length ≤ 120 ∧ h.2.2.length ≤ 120 ∧ Run text (h.1 + h.2.1.length) r
theorem raw_loop {text : Txt} {p : List Hunk} (ht : text.length ≤ 120) (hl : p.length ≤ 130) {K : Int → Txt → Prop} {K' : Txt → Prop} (hQ : ∀ (low : Int) (out : Txt), 0 ≤ low → low ≤ text.length → out.length ≤ 31200 → K' (out ++ (text.take text.length).drop low.toNat) → K low out) :
    ∀ (fu i : Nat) (low : Int) (out : Txt), i ≤ p.length → p.length - i < fu → Run text low (p.drop i) → out.length ≤ 240 * i → K' (rawL text low (p.drop i) out) → L.a6_L1_R text p (p.length : Int) fu low i out K
  | 0, i, _, _, _, h, _, _, _ => by omega
  | fu + 1, i, low, out, hi, h, hr, ho, hK => by
    show L.a6_L1_b text p _ low i out _ _
    unfold L.a6_L1_b
    rcases Nat.lt_or_ge i p.length with g | g
    · rw [drop_cons noHunk g, rawL] at hK
      rw [drop_cons noHunk g, Run] at hr
      obtain ⟨r1, r2, r3, r4, r5, r6, r7⟩ := hr
      refine cond_t (by simp; omega) ⟨inB_of (by omega) (by omega), ?_⟩
      simp only [Int.toNat_natCast]
      have hd : ((text.take (p.getD i noHunk).1.toNat).drop low.toNat).length ≤ 120 := by simp; omega
      have f1 : fits (out.length + ((text.take (p.getD i noHunk).1.toNat).drop low.toNat).length) := by unfold fits; omega
      have f2 : fits ((out ++ (text.take (p.getD i noHunk).1.toNat).drop low.toNat).length + (p.getD i noHunk).2.2.length) := by unfold fits; rw [List.length_append]; omega
      have go : L.a6_J1 (p.getD i noHunk).1 (p.getD i noHunk).2.1 (p.getD i noHunk).2.2 (fun low2 => L.a6_L1_R text p (p.length : Int) fu low2 (i64 ((i : Int) + 1)) ((out ++ ((text.take (p.getD i noHunk).1.toNat).drop low.toNat)) ++ (p.getD i noHunk).2.2) K) := by
        refine ⟨end_ok (h := p.getD i noHunk) (by omega) r4 r5 ?_⟩
        rw [i64_id (by omega) (by omega)]
        exact raw_loop ht hl hQ fu (i + 1) _ _ (by omega) (by omega) r7 (by rw [List.length_append, List.length_append]; omega) hK
      exact ⟨⟨r1, r2, r3⟩, ⟨f1, f2, go⟩, f1, f2, go⟩
    · rw [List.drop_eq_nil_of_le g] at hK hr
      exact cond_f (by simp; omega) (hQ low out hr.1 hr.2 (by omega) hK)
theorem raw_ok {text : Txt} {p : List Hunk} (ht : text.length ≤ 120) (hl : p.length ≤ 130) (hr : Run text 0 p) {K : Txt → Prop} (hK : K (rawL text 0 p [])) : L.a6 p text 0 (text.length : Int) K := by
  refine ⟨⟨⟨p.length + 1, raw_loop (K' := K) ht hl (fun low out h0 h1 h2 hK => ?_) _ 0 0 [] (by omega) (by omega) hr (by simp) hK⟩⟩⟩
  refine ⟨⟨h0, h1, by omega⟩, ?_, ?_⟩
  · unfold fits; simp; omega
  · rw [Int.toNat_natCast]; exact hK
def ocL (text : Txt) : Nat → List Hunk → Int × Int
  | _, [] => (0, 0)
  | i, h :: r => if oc text h.2.1 h.1 = false then (19, i) else ocL text (i + 1) r
def tpA (p : List Hunk) (text : Txt) : Txt × Int × Int :=
  if tpV p ≠ (0, 0) then ([], tpV p) else if sec (lin text) (-2) ≠ (0, 0) then ([], sec (lin text) (-2)) else if ocL text 0 p ≠ (0, 0) then ([], ocL text 0 p) else
    if 120 < (rawL text 0 p []).length then ([], (10, -1)) else (rawL text 0 p [], (0, 0))
def Ok (e : Int) : List Hunk → Prop
  | [] => True
  | h :: r => 0 ≤ h.1 ∧ h.1 ≤ 120 ∧ e < h.1 ∧ h.2.1.length ≤ 120 ∧ h.2.2.length ≤ 120 ∧ Ok (h.1 + h.2.1.length) r
theorem tpL_ok : ∀ (p : List Hunk) (e : Int) (i : Nat), tpL e i p = (0, 0) → Ok e p
  | [], _, _, _ => trivial
  | h :: r, e, i, hz => by
    rw [tpL] at hz
    by_cases c : hk h e ≠ 0
    · rw [if_pos c] at hz; exact absurd (congrArg Prod.fst hz) c
    · rw [if_neg c] at hz
      obtain ⟨a1, a2, a3, a4, a5, a6⟩ := hk_zero (by simpa using c) lin_zero
      exact ⟨a1, a2, a3, a4, a5, tpL_ok r _ _ hz⟩
theorem tpV_len {p : List Hunk} (h : tpV p = (0, 0)) : p.length ≤ 130 ∧ Ok (-1) p := by
  unfold tpV at h
  by_cases c : 130 < p.length
  · rw [if_pos c] at h; simp at h
  · rw [if_neg c] at h; exact ⟨by omega, tpL_ok _ _ _ h⟩
theorem Ok_mem : ∀ {p : List Hunk} {e : Int}, Ok e p → ∀ h, h ∈ p → 0 ≤ h.1 ∧ h.1 ≤ 120 ∧ h.2.1.length ≤ 120
  | [], _, _, h, hm => by cases hm
  | a :: r, e, ho, h, hm => by
    rcases List.mem_cons.1 hm with rfl | hm
    · exact ⟨ho.1, ho.2.1, ho.2.2.2.1⟩
    · exact Ok_mem ho.2.2.2.2.2 h hm
theorem oc_loop {text : Txt} {p : List Hunk} (ht : text.length ≤ 120) (hl : p.length ≤ 130) (hm : ∀ h, h ∈ p → 0 ≤ h.1 ∧ h.1 ≤ 120 ∧ h.2.1.length ≤ 120) {K : Int → Int → Prop} {Q : Prop} :
    ∀ (fu i : Nat), i ≤ p.length → p.length - i < fu → (ocL text i (p.drop i) = (0, 0) → Q) → (ocL text i (p.drop i) ≠ (0, 0) → K (ocL text i (p.drop i)).1 (ocL text i (p.drop i)).2) → L.d5_L1_R text p (p.length : Int) fu i Q K
  | 0, i, _, h, _, _ => by omega
  | fu + 1, i, hi, h, hQ, hK => by
    show L.d5_L1_b text p _ i _ _ _
    unfold L.d5_L1_b
    rcases Nat.lt_or_ge i p.length with g | g
    · rw [drop_cons noHunk g, ocL] at hK hQ
      refine cond_t (by simp; omega) ⟨inB_of (by omega) (by omega), ?_⟩
      simp only [Int.toNat_natCast]
      obtain ⟨m1, m2, m3⟩ := hm _ (getD_mem noHunk g)
      refine oc_ok ht m3 m1 m2 ?_
      by_cases c : oc text (p.getD i noHunk).2.1 (p.getD i noHunk).1 = false
      · rw [if_pos c] at hK
        exact cond_t (by rw [c]; rfl) (hK (by simp))
      · rw [if_neg c] at hK hQ
        refine cond_f (by simp only [Bool.not_eq_false] at c; rw [c]; rfl) ?_
        rw [i64_id (by omega) (by omega)]
        exact oc_loop ht hl hm fu (i + 1) (by omega) (by omega) hQ hK
    · rw [List.drop_eq_nil_of_le g] at hQ
      exact cond_f (by simp; omega) (hQ rfl)
theorem run_of {text : Txt} : ∀ {p : List Hunk} {e low : Int} {i : Nat}, Ok e p → ocL text i p = (0, 0) → 0 ≤ low → low ≤ e + 1 → low ≤ text.length → Run text low p
  | [], _, _, _, _, _, h0, _, h2 => ⟨h0, h2⟩
  | h :: r, e, low, i, ho, hz, h0, h1, h2 => by
    obtain ⟨a1, a2, a3, a4, a5, a6⟩ := ho
    rw [ocL] at hz
    by_cases c : oc text h.2.1 h.1 = false
    · rw [if_pos c] at hz; simp at hz
    · rw [if_neg c] at hz
      have c' : oc text h.2.1 h.1 = true := by simpa using c
      unfold oc at c'
      simp only [Bool.and_eq_true, decide_eq_true_eq] at c'
      obtain ⟨⟨b1, b2, b3⟩, _⟩ := c'
      exact ⟨h0, by omega, b2, a2, a4, a5, run_of a6 hz (by omega) (by omega) (by omega)⟩
theorem sec_zero {f : Int × Int} {i : Int} (hf : f.1 = 0 → f = (0, 0)) (h : sec f i = (0, 0)) : f = (0, 0) := by
  unfold sec at h
  by_cases c : f = (0, 0)
  · exact c
  · rw [if_neg c] at h; exact hf (congrArg Prod.fst h)
theorem tpA_ok {p : List Hunk} {text : Txt} {K : Txt → Int → Int → Prop} (hK : K (tpA p text).1 (tpA p text).2.1 (tpA p text).2.2) : L.d5 p text K := by
  refine ⟨tpV_ok ?_⟩
  unfold tpA at hK
  by_cases c1 : tpV p ≠ (0, 0)
  · rw [if_pos c1] at hK; exact cond_t (fault1 (by exact c1)) hK
  rw [if_neg c1] at hK
  have c1' : tpV p = (0, 0) := by simpa using c1
  refine cond_f (fault0 (by exact c1')) (linS_ok ?_)
  by_cases c2 : sec (lin text) (-2) ≠ (0, 0)
  · rw [if_pos c2] at hK; exact cond_t (fault1 (by exact c2)) hK
  rw [if_neg c2] at hK
  have c2' : sec (lin text) (-2) = (0, 0) := by simpa using c2
  have ht := lin_len (sec_zero (lin_zero text) c2')
  obtain ⟨hl, ho⟩ := tpV_len c1'
  refine cond_f (fault0 (by exact c2')) ⟨⟨p.length + 1, oc_loop ht hl (Ok_mem ho) _ 0 (by omega) (by omega) (fun hz => ?_) (fun hz => ?_)⟩⟩
  · rw [List.drop_zero] at hz
    rw [if_neg (by simpa using hz)] at hK
    refine raw_ok ht hl (run_of ho hz (by omega) (by omega) (by omega)) ?_
    by_cases c3 : 120 < (rawL text 0 p []).length
    · rw [if_pos c3] at hK; exact cond_t (decide_eq_true (by omega)) hK
    · rw [if_neg c3] at hK; exact cond_f (decide_eq_false (by omega)) hK
  · rw [List.drop_zero] at hz ⊢
    rw [if_pos hz] at hK; exact hK
end Tp
end Go.Proofs.YtnpjonhoihbaeaaGreatDoor
set_option linter.unusedVariables false
set_option linter.unusedSimpArgs false
namespace Go.Proofs.YtnpjonhoihbaeaaGreatDoor
open Eng Bb
namespace Tp
def chk2 (c : Chg) : Int := if lin c.2.2.2.1 ≠ (0, 0) then (lin c.2.2.2.1).1 else (tpV c.2.2.2.2).1
def chk1 (c : Chg) : Int :=
  if (decide (0 < c.2.2.2.1.length) && (c.1 == 4 || c.1 == 3)) = true then 5 else if (!(c.1 == 4) == decide (0 < c.2.2.2.2.length)) = true then 5 else chk2 c
def chk (c : Chg) : Int :=
  if c.1 < 1 ∨ 4 < c.1 then 4 else if La.vp_R c.2.1 = false then 12 else if (c.1 == 3 && !La.vp_R c.2.2.1) = true then 12 else
    if (!(c.1 == 3) && !(c.2.2.1.toList == L.str2.toList)) = true then 5 else if (c.1 == 3 && rel c.2.1 c.2.2.1) = true then 5 else chk1 c
theorem chk2_ok {c : Chg} {K : Int → Prop} (hK : K (chk2 c)) : L.a2_J3 c.2.2.2.1 c.2.2.2.2 K := by
  refine ⟨lin_ok ?_⟩
  unfold chk2 at hK
  by_cases c1 : lin c.2.2.2.1 ≠ (0, 0)
  · rw [if_pos c1] at hK; exact cond_t (fault1 (by exact c1)) hK
  · rw [if_neg c1] at hK
    exact cond_f (fault0 (Decidable.not_not.1 c1)) (tpV_ok hK)
theorem chk1_ok {c : Chg} {K : Int → Prop} (hK : K (chk1 c)) : L.a2_J4 (c.1 == 4) (c.1 == 3) false c.2.2.2.1 c.2.2.2.2 (L.a2_J3 c.2.2.2.1 c.2.2.2.2 K) K := by
  constructor
  unfold L.a2_J4_B
  refine cond_f rfl ?_
  unfold chk1 at hK
  have e1 : (bif (decide ((c.2.2.2.1.length : Int) > 0)) then (bif (c.1 == 4) then true else (c.1 == 3)) else false) = (decide (0 < c.2.2.2.1.length) && (c.1 == 4 || c.1 == 3)) := by
    have : decide ((c.2.2.2.1.length : Int) > 0) = decide (0 < c.2.2.2.1.length) := by simp
    rw [this]
    cases decide (0 < c.2.2.2.1.length) <;> cases (c.1 == 4) <;> rfl
  have e2 : (!((c.1 == 4) == (decide ((c.2.2.2.2.length : Int) > 0)))) = (!(c.1 == 4) == decide (0 < c.2.2.2.2.length)) := by
    have : decide ((c.2.2.2.2.length : Int) > 0) = decide (0 < c.2.2.2.2.length) := by simp
    rw [this]
  rw [e1, e2]
  cases c1 : (decide (0 < c.2.2.2.1.length) && (c.1 == 4 || c.1 == 3)) with
  | true => rw [if_pos c1] at hK; exact hK
  | false =>
    rw [if_neg (by rw [c1]; decide)] at hK
    refine cond_f rfl ?_
    cases c2 : (!(c.1 == 4) == decide (0 < c.2.2.2.2.length)) with
    | true => rw [if_pos c2] at hK; exact hK
    | false =>
      rw [if_neg (by rw [c2]; decide)] at hK
      exact chk2_ok hK
theorem chk_ok {c : Chg} {K : Int → Prop} (hK : K (chk c)) : L.a2 c.1 c.2.1 c.2.2.1 c.2.2.2.1 c.2.2.2.2 K := by
  constructor
  unfold L.a2_B
  unfold chk at hK
  by_cases c1 : c.1 < 1 ∨ 4 < c.1
  · rw [if_pos c1] at hK
    exact cond_t (by simp only [bor, Bool.or_eq_true, decide_eq_true_eq]; omega) hK
  rw [if_neg c1] at hK
  refine cond_f (by simp only [bor, Bool.or_eq_false_iff, decide_eq_false_iff_not]; omega) ⟨?_⟩
  show (bif (!La.vp_R c.2.1) then _ else _)
  cases c2 : La.vp_R c.2.1 with
  | false =>
    rw [if_pos c2] at hK
    exact cond_t rfl ⟨cond_t rfl hK⟩
  | true =>
    rw [if_neg (by rw [c2]; decide)] at hK
    refine cond_f rfl ?_
    have rest : (c.1 == 3 && !La.vp_R c.2.2.1) = false → L.a2_J5 (c.1 == 4) (c.1 == 3) false c.2.1 c.2.2.1 c.2.2.2.1 c.2.2.2.2 (L.a2_J3 c.2.2.2.1 c.2.2.2.2 K) K := fun c3 => by
      rw [if_neg (by rw [c3]; decide)] at hK
      constructor
      unfold L.a2_J5_B
      refine cond_f rfl ?_
      cases c4 : (c.1 == 3) with
      | true =>
        rw [c4] at hK c3
        simp only [Bool.not_true, Bool.false_and, Bool.false_eq_true, if_false, Bool.true_and] at hK c3
        refine cond_f rfl (cond_t rfl (rel_ok (vp_size c2) (vp_size (by simpa using c3)) ?_))
        cases c5 : rel c.2.1 c.2.2.1 with
        | true => rw [if_pos c5] at hK; exact ⟨cond_t rfl hK⟩
        | false =>
          rw [if_neg (by rw [c5]; decide)] at hK
          have := chk1_ok hK
          rw [c4] at this
          exact this
      | false =>
        rw [c4] at hK
        simp only [Bool.not_false, Bool.true_and, Bool.false_and, Bool.false_eq_true, if_false] at hK
        cases c5 : (c.2.2.1.toList == L.str2.toList) with
        | false =>
          rw [c5] at hK
          exact cond_t rfl ⟨cond_t rfl hK⟩
        | true =>
          rw [c5] at hK
          refine cond_f rfl (cond_f rfl ?_)
          have := chk1_ok (K := K) hK
          rw [c4] at this
          exact this
    cases c4 : (c.1 == 3) with
    | false =>
      have := rest (by rw [c4]; rfl)
      rw [c4] at this
      exact this
    | true =>
      refine cond_t rfl ⟨?_⟩
      show L.a2_J5 (c.1 == 4) true (bif false then true else (bif true then (!La.vp_R c.2.2.1) else false)) _ _ _ _ _ _
      cases c3 : La.vp_R c.2.2.1 with
      | true =>
        have := rest (by rw [c3]; simp)
        rw [c4] at this
        exact this
      | false =>
        rw [if_pos (by rw [c3, c4]; rfl)] at hK
        exact ⟨cond_t rfl hK⟩
def vPL : Nat → Patch → Int × Int
  | _, [] => (0, 0)
  | i, c :: r => if chk c ≠ 0 then (chk c, i) else vPL (i + 1) r
def vP (p : Patch) : Int × Int := if 30 < p.length then (2, -1) else vPL 0 p
theorem vP_loop {p : Patch} (hl : p.length ≤ 30) {K : Int → Int → Prop} : ∀ (fu i : Nat), i ≤ p.length → p.length - i < fu → K (vPL i (p.drop i)).1 (vPL i (p.drop i)).2 → L.c3_L1_R p (p.length : Int) fu i (K 0 0) K
  | 0, i, _, h, _ => by omega
  | fu + 1, i, hi, h, hK => by
    show L.c3_L1_b p _ i _ _ _
    unfold L.c3_L1_b
    rcases Nat.lt_or_ge i p.length with g | g
    · rw [drop_cons noChg g, vPL] at hK
      refine cond_t (by simp; omega) ⟨inB_of (by omega) (by omega), ?_⟩
      simp only [Int.toNat_natCast]
      refine chk_ok (c := p.getD i noChg) ?_
      by_cases c : chk (p.getD i noChg) ≠ 0
      · rw [if_pos c] at hK; exact cond_t (by simpa using c) hK
      · rw [if_neg c] at hK
        refine cond_f (by simpa using c) ?_
        rw [i64_id (by omega) (by omega)]
        exact vP_loop hl fu (i + 1) (by omega) (by omega) hK
    · rw [List.drop_eq_nil_of_le g] at hK
      exact cond_f (by simp; omega) hK
theorem vP_ok {p : Patch} {K : Int → Int → Prop} (hK : K (vP p).1 (vP p).2) : L.c3 p K := by
  constructor
  unfold L.c3_B
  unfold vP at hK
  by_cases c : 30 < p.length
  · rw [if_pos c] at hK; exact cond_t (by simp; omega) hK
  · rw [if_neg c] at hK
    exact cond_f (by simp; omega) ⟨⟨p.length + 1, vP_loop (by omega) _ 0 (by omega) (by omega) hK⟩⟩
theorem vPS_ok {p : Patch} {i : Int} {K : Int → Int → Prop} (hK : K (sec (vP p) i).1 (sec (vP p) i).2) : L.h5 p i K := ⟨vP_ok (sec_ok hK)⟩
theorem clone_ok {s : Txt} (h : s.length ≤ 120) {K : Txt → Prop} (hK : K s) : L.f0 s K := by
  refine ⟨fun b hb => ?_⟩
  cases b with
  | true =>
    cases s with
    | nil => exact hK
    | cons a t => exact absurd (hb (by simp)) (by decide)
  | false => exact ⟨by unfold fits; simp; omega, by simpa using hK⟩
theorem copy_loop {t : Tree} (hl : t.length ≤ 24) (hf : ∀ f, f ∈ t → f.2.length ≤ 120) {K : Tree → Prop} (hK : K t) : ∀ (fu i : Nat), i ≤ t.length → t.length - i < fu → L.a9_L1_R t (t.length : Int) fu i (t.take i) K
  | 0, i, _, h => by omega
  | fu + 1, i, hi, h => by
    show L.a9_L1_b t _ i (t.take i) _ _
    unfold L.a9_L1_b
    rcases Nat.lt_or_ge i t.length with g | g
    · refine cond_t (by simp; omega) ⟨inB_of (by omega) (by omega), ?_⟩
      simp only [Int.toNat_natCast]
      have hm := hf _ (getD_mem noFile g)
      have e : t.take i ++ ([((t.getD i noFile).1, (t.getD i noFile).2)] : Tree) = t.take (i + 1) := by
        rw [List.take_succ_eq_append_getElem g, List.getD_eq_getElem?_getD, List.getElem?_eq_getElem g]; rfl
      have one : (fits ((t.take i).length + ([((t.getD i noFile).1, (t.getD i noFile).2)] : Tree).length)) ∧ L.a9_L1_R t (t.length : Int) fu (i64 ((i : Int) + 1)) (t.take i ++ ([((t.getD i noFile).1, (t.getD i noFile).2)] : Tree)) K := by
        refine ⟨by unfold fits; simp; omega, ?_⟩
        rw [e, i64_id (by omega) (by omega)]
        exact copy_loop hl hf hK fu (i + 1) (by omega) (by omega)
      exact ⟨⟨clone_ok hm one, clone_ok hm one⟩, ⟨clone_ok hm one, clone_ok hm ⟨one, one⟩⟩, clone_ok hm ⟨one, one, one⟩⟩
    · rw [List.take_of_length_le g]
      exact cond_f (by simp; omega) hK
theorem copy_ok {t : Tree} (hl : t.length ≤ 24) (hf : ∀ f, f ∈ t → f.2.length ≤ 120) {K : Tree → Prop} (hK : K t) : L.a9 t K :=
  ⟨⟨⟨t.length + 1, copy_loop hl hf hK _ 0 (by omega) (by omega)⟩⟩⟩
def bsL (t : Tree) (p : ByteArray) : Nat → Nat → Nat → Nat
  | 0, i, _ => i
  | n + 1, i, j => if i < j then (if La.cmp_R (t.getD ((i + j) / 2) noFile).1 p < 0 then bsL t p n ((i + j) / 2 + 1) j else bsL t p n i ((i + j) / 2)) else i
def place (t : Tree) (p : ByteArray) : Nat := bsL t p (t.length + 1) 0 t.length
def found (t : Tree) (p : ByteArray) : Bool := decide (place t p < t.length) && (La.cmp_R (t.getD (place t p) noFile).1 p == 0)
theorem half {i j : Nat} (h : i + j ≤ 1000) : i64 ((IntKind.wrap .u64 (i64 ((i : Int) + (j : Int)))).fdiv (2 ^ (min (1 : Int).toNat 64))) = (((i + j) / 2 : Nat) : Int) := by
  rw [i64_id (n := (i : Int) + j) (by omega) (by omega)]
  have e1 : IntKind.wrap .u64 ((i : Int) + (j : Int)) = ((i + j : Nat) : Int) := by
    show ((i : Int) + (j : Int)) % 18446744073709551616 = _
    omega
  have e2 : (2 ^ (min (1 : Int).toNat 64) : Int) = 2 := by decide
  rw [e1, e2, Int.fdiv_eq_ediv_of_nonneg _ (by decide), i64_id (by omega) (by omega)]
  omega
theorem bs_loop {t : Tree} {p : ByteArray} (hl : t.length ≤ 24) {K : Int → Prop} : ∀ (fu i j : Nat), i ≤ j → j ≤ t.length → j - i < fu → K (bsL t p fu i j : Nat) → L.c9_L1_R t p fu i j K
  | 0, i, j, _, _, h, _ => by omega
  | fu + 1, i, j, hi, hj, h, hK => by
    show L.c9_L1_b t p i j _ _
    unfold L.c9_L1_b
    rw [bsL] at hK
    by_cases c : i < j
    · rw [if_pos c] at hK
      rw [half (by omega)]
      refine cond_t (by simpa using c) ⟨by decide, inB_of (by omega) (by omega), ⟨⟨?_⟩⟩⟩
      show (bif decide (La.cmp_R (t.getD (((i + j) / 2 : Nat) : Int).toNat noFile).1 p < 0) then _ else _)
      rw [Int.toNat_natCast]
      by_cases c2 : La.cmp_R (t.getD ((i + j) / 2) noFile).1 p < 0
      · rw [if_pos c2] at hK
        refine cond_t (decide_eq_true c2) ?_
        rw [i64_id (by omega) (by omega)]
        exact bs_loop hl fu ((i + j) / 2 + 1) j (by omega) hj (by omega) hK
      · rw [if_neg c2] at hK
        exact cond_f (decide_eq_false c2) (bs_loop hl fu i ((i + j) / 2) (by omega) (by omega) (by omega) hK)
    · rw [if_neg c] at hK
      exact cond_f (by simpa using c) hK
theorem bsL_le {t : Tree} {p : ByteArray} : ∀ (n i j : Nat), i ≤ j → bsL t p n i j ≤ j
  | 0, i, j, h => h
  | n + 1, i, j, h => by
    rw [bsL]
    by_cases c : i < j
    · rw [if_pos c]
      by_cases c2 : La.cmp_R (t.getD ((i + j) / 2) noFile).1 p < 0
      · rw [if_pos c2]; exact bsL_le n _ j (by omega)
      · rw [if_neg c2]; have := bsL_le (t := t) (p := p) n i ((i + j) / 2) (by omega); omega
    · rw [if_neg c]; exact h
theorem place_le {t : Tree} {p : ByteArray} : place t p ≤ t.length := bsL_le _ _ _ (Nat.zero_le _)
theorem find_ok {t : Tree} {p : ByteArray} (hl : t.length ≤ 24) {K : Int → Bool → Prop} (hK : K (place t p : Nat) (found t p)) : L.e5 t p K := by
  refine ⟨⟨⟨t.length + 1, bs_loop hl _ 0 t.length (by omega) (by omega) (by omega) ?_⟩⟩⟩
  refine ⟨fun h => inB_of (by omega) (by simpa using h), ?_⟩
  unfold found at hK
  show (bif decide (((place t p : Nat) : Int) < (t.length : Int)) then _ else _)
  by_cases c : place t p < t.length
  · rw [decide_eq_true c, Bool.true_and] at hK
    refine cond_t (by simpa using c) ⟨⟨?_⟩⟩
    rw [Int.toNat_natCast]
    exact hK
  · rw [decide_eq_false c, Bool.false_and] at hK
    exact cond_f (by simpa using c) hK
end Tp
end Go.Proofs.YtnpjonhoihbaeaaGreatDoor
set_option linter.unusedVariables false
set_option linter.unusedSimpArgs false
namespace Go.Proofs.YtnpjonhoihbaeaaGreatDoor
open Eng Bb
namespace Tp
def ins (t : Tree) (k : Nat) (f : File) : Tree := (t.take k ++ [f]) ++ t.drop k
def del (t : Tree) (k : Nat) : Tree := t.take k ++ t.drop (k + 1)
def setL (t : Tree) (k : Nat) (l : Txt) : Tree := t.set k ((t.getD k noFile).1, l)
def put (p : ByteArray) (l : Txt) (t : Tree) : Tree := if found t p = true then setL t (place t p) l else setL (ins t (place t p) (p, [])) (place t p) l
theorem ins_len {t : Tree} {k : Nat} {f : File} (h : k ≤ t.length) : (ins t k f).length = t.length + 1 := by
  unfold ins; simp; omega
theorem put1_ok {t : Tree} {k : Nat} {l : Txt} (hk : k < t.length) (hl : l.length ≤ 120) {K : Tree → Prop} (hK : K (setL t k l)) : L.e1_J1 l (k : Int) t K := by
  have one : (inB (k : Int) t.length) ∧ K (t.set (k : Int).toNat ((t.getD (k : Int).toNat noFile).1, l)) := ⟨inB_of (by omega) (by omega), by rw [Int.toNat_natCast]; exact hK⟩
  exact ⟨⟨clone_ok hl one, clone_ok hl one⟩⟩
theorem put_ok {t : Tree} {p : ByteArray} {l : Txt} (ht : t.length ≤ 24) (hl : l.length ≤ 120) {K : Tree → Prop} (hK : K (put p l t)) : L.e1 p l t K := by
  refine ⟨find_ok ht ?_⟩
  unfold put at hK
  have hp : place t p ≤ t.length := place_le
  cases c : found t p with
  | true =>
    rw [if_pos c] at hK
    have hlt : place t p < t.length := by
      unfold found at c
      simp only [Bool.and_eq_true, decide_eq_true_eq] at c
      exact c.1
    exact cond_f rfl (put1_ok hlt hl hK)
  | false =>
    rw [if_neg (by rw [c]; decide)] at hK
    refine cond_t rfl ⟨⟨by omega, by omega, by simp, by unfold fits; simp; omega⟩, ?_⟩
    rw [Int.toNat_natCast]
    exact put1_ok (t := ins t (place t p) (p, [])) (by rw [ins_len hp]; omega) hl hK
def Good (c : Chg) : Prop := c.2.1.size ≤ 60 ∧ (c.1 = 3 → c.2.2.1.size ≤ 60) ∧ c.2.2.2.1.length ≤ 120
def mk1 (c : Chg) (t : Tree) : Int × Tree :=
  if c.1 = 1 then (if clash t c.2.1 (-1) = true then (7, t) else if 24 ≤ t.length then (14, t) else (0, put c.2.1 c.2.2.2.1 t)) else
    if found t c.2.1 = false then (6, t) else
      if c.1 = 2 then (if eqL (t.getD (place t c.2.1) noFile).2 c.2.2.2.1 = false then (19, t) else (0, del t (place t c.2.1))) else
        if c.1 = 3 then (if clash t c.2.2.1 (place t c.2.1) = true then (7, t) else (0, put c.2.2.1 (t.getD (place t c.2.1) noFile).2 (del t (place t c.2.1)))) else
          if (tpA c.2.2.2.2 (t.getD (place t c.2.1) noFile).2).2 ≠ (0, 0) then ((tpA c.2.2.2.2 (t.getD (place t c.2.1) noFile).2).2.1, t) else
            (0, setL t (place t c.2.1) (tpA c.2.2.2.2 (t.getD (place t c.2.1) noFile).2).1)
theorem found_lt {t : Tree} {p : ByteArray} (h : found t p = true) : place t p < t.length := by
  unfold found at h
  simp only [Bool.and_eq_true, decide_eq_true_eq] at h
  exact h.1
theorem inv_pth {t : Tree} (h : Inv t) : Pth t := fun f hf => (h.2 f hf).1
theorem del_len {t : Tree} {k : Nat} (h : k < t.length) : (del t k).length = t.length - 1 := by unfold del; simp; omega
theorem mk1_ok {c : Chg} {t : Tree} (hg : Good c) (ht : Inv t) {K : Int → Tree → Prop} (hK : K (mk1 c t).1 (mk1 c t).2) : L.e8 c.1 c.2.1 c.2.2.1 c.2.2.2.1 c.2.2.2.2 t K := by
  refine ⟨find_ok ht.1 ?_⟩
  unfold mk1 at hK
  by_cases c1 : c.1 = 1
  · rw [if_pos c1] at hK
    refine cond_t (by simpa using c1) (clash_ok ht.1 (inv_pth ht) hg.1 ?_)
    cases c2 : clash t c.2.1 (-1) with
    | true => rw [if_pos c2] at hK; exact hK
    | false =>
      rw [if_neg (by rw [c2]; decide)] at hK
      refine cond_f rfl ?_
      by_cases c3 : 24 ≤ t.length
      · rw [if_pos c3] at hK; exact cond_t (decide_eq_true (by omega)) hK
      · rw [if_neg c3] at hK
        exact cond_f (decide_eq_false (by omega)) (put_ok ht.1 hg.2.2 hK)
  rw [if_neg c1] at hK
  refine cond_f (by simpa using c1) ?_
  cases c2 : found t c.2.1 with
  | false => rw [if_pos c2] at hK; exact hK
  | true =>
    rw [if_neg (by rw [c2]; decide)] at hK
    have hlt := found_lt c2
    have hfl := (ht.2 _ (getD_mem noFile hlt)).2
    have e1 : i64 (((place t c.2.1 : Nat) : Int) + 1) = ((place t c.2.1 + 1 : Nat) : Int) := by
      have := ht.1
      rw [i64_id (by omega) (by omega)]; omega
    have cd : (0 ≤ ((place t c.2.1 : Nat) : Int) ∧ ((place t c.2.1 : Nat) : Int) < (i64 (((place t c.2.1 : Nat) : Int) + 1)) ∧ (i64 (((place t c.2.1 : Nat) : Int) + 1)) ≤ (t.length : Int) ∧ fits t.length) := by
      rw [e1]
      have := ht.1
      exact ⟨by omega, by omega, by omega, by unfold fits; omega⟩
    have ed : t.take (((place t c.2.1 : Nat) : Int)).toNat ++ t.drop (i64 (((place t c.2.1 : Nat) : Int) + 1)).toNat = del t (place t c.2.1) := by
      rw [e1, Int.toNat_natCast, Int.toNat_natCast]; rfl
    refine cond_f rfl ⟨inB_of (by omega) (by omega), ?_⟩
    simp only [Int.toNat_natCast] at ed ⊢
    by_cases c3 : c.1 = 2
    · rw [if_pos c3] at hK
      refine cond_t (by simpa using c3) (eq_ok hfl ?_)
      cases c4 : eqL (t.getD (place t c.2.1) noFile).2 c.2.2.2.1 with
      | false => rw [if_pos c4] at hK; exact hK
      | true =>
        rw [if_neg (by rw [c4]; decide)] at hK
        refine cond_f rfl ⟨cd, ?_⟩
        rw [ed]; exact hK
    rw [if_neg c3] at hK
    refine cond_f (by simpa using c3) ?_
    by_cases c4 : c.1 = 3
    · rw [if_pos c4] at hK
      refine cond_t (by simpa using c4) (clash_ok ht.1 (inv_pth ht) (hg.2.1 c4) ?_)
      cases c5 : clash t c.2.2.1 (place t c.2.1) with
      | true => rw [if_pos c5] at hK; exact hK
      | false =>
        rw [if_neg (by rw [c5]; decide)] at hK
        refine cond_f rfl ⟨cd, ?_⟩
        rw [ed]
        exact put_ok (by rw [del_len hlt]; have := ht.1; omega) hfl hK
    rw [if_neg c4] at hK
    refine cond_f (by simpa using c4) (tpA_ok ?_)
    by_cases c5 : (tpA c.2.2.2.2 (t.getD (place t c.2.1) noFile).2).2 ≠ (0, 0)
    · rw [if_pos c5] at hK
      exact cond_t (fault1 (by exact c5)) hK
    · rw [if_neg c5] at hK
      exact cond_f (fault0 (Decidable.not_not.1 c5)) ⟨inB_of (by omega) (by omega), hK⟩
theorem tpA_len (p : List Hunk) (t : Txt) : (tpA p t).1.length ≤ 120 := by
  unfold tpA
  repeat' split
  all_goals simp <;> omega
theorem setL_inv {t : Tree} {k : Nat} {l : Txt} (ht : Inv t) (hk : k < t.length) (hl : l.length ≤ 120) : Inv (setL t k l) := by
  refine ⟨by unfold setL; simp; exact ht.1, fun f hf => ?_⟩
  rcases List.mem_or_eq_of_mem_set hf with h | h
  · exact ht.2 f h
  · rw [h]; exact ⟨(ht.2 _ (getD_mem noFile hk)).1, hl⟩
theorem del_inv {t : Tree} {k : Nat} (ht : Inv t) (hk : k < t.length) : Inv (del t k) := by
  refine ⟨by rw [del_len hk]; have := ht.1; omega, fun f hf => ?_⟩
  rcases List.mem_append.1 hf with h | h
  · exact ht.2 f (List.mem_of_mem_take h)
  · exact ht.2 f (List.mem_of_mem_drop h)
theorem put_inv {t : Tree} {p : ByteArray} {l : Txt} (ht : Inv t) (h24 : t.length < 24) (hp : p.size ≤ 60) (hl : l.length ≤ 120) : Inv (put p l t) := by
  unfold put
  by_cases c : found t p = true
  · rw [if_pos c]; exact setL_inv ht (found_lt c) hl
  · rw [if_neg c]
    refine setL_inv ⟨by rw [ins_len place_le]; omega, fun f hf => ?_⟩ (by rw [ins_len place_le]; have := place_le (t := t) (p := p); omega) hl
    rcases List.mem_append.1 hf with h | h
    · rcases List.mem_append.1 h with h | h
      · exact ht.2 f (List.mem_of_mem_take h)
      · rw [List.mem_singleton.1 h]; exact ⟨hp, by simp⟩
    · exact ht.2 f (List.mem_of_mem_drop h)
theorem mk1_inv {c : Chg} {t : Tree} (hg : Good c) (ht : Inv t) : Inv (mk1 c t).2 := by
  unfold mk1
  by_cases c1 : c.1 = 1
  · rw [if_pos c1]
    by_cases c2 : clash t c.2.1 (-1) = true
    · rw [if_pos c2]; exact ht
    · rw [if_neg c2]
      by_cases c3 : 24 ≤ t.length
      · rw [if_pos c3]; exact ht
      · rw [if_neg c3]; exact put_inv ht (by omega) hg.1 hg.2.2
  rw [if_neg c1]
  by_cases c2 : found t c.2.1 = false
  · rw [if_pos c2]; exact ht
  rw [if_neg c2]
  have hlt := found_lt (by simpa using c2)
  have hfl := (ht.2 _ (getD_mem noFile hlt)).2
  by_cases c3 : c.1 = 2
  · rw [if_pos c3]
    by_cases c4 : eqL (t.getD (place t c.2.1) noFile).2 c.2.2.2.1 = false
    · rw [if_pos c4]; exact ht
    · rw [if_neg c4]; exact del_inv ht hlt
  rw [if_neg c3]
  by_cases c4 : c.1 = 3
  · rw [if_pos c4]
    by_cases c5 : clash t c.2.2.1 (place t c.2.1) = true
    · rw [if_pos c5]; exact ht
    · rw [if_neg c5]; exact put_inv (del_inv ht hlt) (by rw [del_len hlt]; have := ht.1; omega) (hg.2.1 c4) hfl
  rw [if_neg c4]
  by_cases c5 : (tpA c.2.2.2.2 (t.getD (place t c.2.1) noFile).2).2 ≠ (0, 0)
  · rw [if_pos c5]; exact ht
  · rw [if_neg c5]; exact setL_inv ht hlt (tpA_len _ _)
theorem chk_good {c : Chg} (h : chk c = 0) : Good c := by
  unfold chk at h
  by_cases c1 : c.1 < 1 ∨ 4 < c.1
  · rw [if_pos c1] at h; omega
  rw [if_neg c1] at h
  by_cases c2 : La.vp_R c.2.1 = false
  · rw [if_pos c2] at h; omega
  rw [if_neg c2] at h
  by_cases c3 : (c.1 == 3 && !La.vp_R c.2.2.1) = true
  · rw [if_pos c3] at h; omega
  rw [if_neg c3] at h
  split at h
  · omega
  split at h
  · omega
  unfold chk1 at h
  split at h
  · omega
  split at h
  · omega
  unfold chk2 at h
  refine ⟨vp_size (by simpa using c2), fun e => vp_size ?_, ?_⟩
  · rw [e] at c3
    simpa using c3
  · by_cases c6 : lin c.2.2.2.1 ≠ (0, 0)
    · rw [if_pos c6] at h; exact absurd (lin_zero _ h) c6
    · exact lin_len (Decidable.not_not.1 c6)
theorem vPL_good : ∀ (p : Patch) (i : Nat), vPL i p = (0, 0) → ∀ c, c ∈ p → Good c
  | [], _, _, c, hc => by cases hc
  | a :: r, i, h, c, hc => by
    rw [vPL] at h
    by_cases c1 : chk a ≠ 0
    · rw [if_pos c1] at h; exact absurd (congrArg Prod.fst h) c1
    · rw [if_neg c1] at h
      rcases List.mem_cons.1 hc with rfl | hc
      · exact chk_good (Decidable.not_not.1 c1)
      · exact vPL_good r _ h c hc
theorem vP_good {p : Patch} (h : vP p = (0, 0)) : p.length ≤ 30 ∧ ∀ c, c ∈ p → Good c := by
  unfold vP at h
  by_cases c : 30 < p.length
  · rw [if_pos c] at h; simp at h
  · rw [if_neg c] at h; exact ⟨by omega, vPL_good _ _ h⟩
theorem sec_fst {f : Int × Int} {i : Int} (hf : f.1 = 0 → f = (0, 0)) (h : (sec f i).1 = 0) : sec f i = (0, 0) := by
  unfold sec at h ⊢
  by_cases c : f = (0, 0)
  · rw [if_pos c]
  · rw [if_neg c] at h; exact absurd (hf h) c
theorem valL_zero {t : Tree} : ∀ (s : Tree) (i : Nat), (valL t i s).1 = 0 → valL t i s = (0, 0)
  | [], _, _ => rfl
  | a :: r, i, h => by
    rw [valL] at h ⊢
    split at h
    · simp at h
    rename_i c1
    rw [if_neg c1]
    split at h
    · simp at h
    rename_i c2
    rw [if_neg c2]
    split at h
    · simp at h
    rename_i c3
    rw [if_neg c3]
    split at h
    · rename_i c4
      rw [if_pos c4]; exact valL_zero r _ h
    · rename_i c4
      exact absurd (sec_fst (lin_zero _) h) c4
theorem val_zero {t : Tree} (h : (val t).1 = 0) : val t = (0, 0) := by
  unfold val at h ⊢
  by_cases c : 24 < t.length
  · rw [if_pos c] at h; simp at h
  · rw [if_neg c] at h ⊢; exact valL_zero _ _ h
theorem valL_inv {t : Tree} : ∀ (s : Tree) (i : Nat), valL t i s = (0, 0) → ∀ f, f ∈ s → f.1.size ≤ 60 ∧ f.2.length ≤ 120
  | [], _, _, f, hf => by cases hf
  | a :: r, i, h, f, hf => by
    rw [valL] at h
    split at h
    · simp at h
    rename_i c1
    split at h
    · simp at h
    split at h
    · simp at h
    split at h
    · rename_i c4
      rcases List.mem_cons.1 hf with rfl | hf
      · exact ⟨vp_size (by simpa using c1), lin_len (sec_zero (lin_zero _) c4)⟩
      · exact valL_inv r _ h f hf
    · rename_i c4
      exact absurd h c4
theorem val_inv {t : Tree} (h : val t = (0, 0)) : Inv t := by
  unfold val at h
  by_cases c : 24 < t.length
  · rw [if_pos c] at h; simp at h
  · rw [if_neg c] at h; exact ⟨by omega, valL_inv _ _ h⟩
def apL : Nat → Patch → Tree → Tree × Int × Int
  | _, [], t => (t, (0, 0))
  | i, c :: r, t => if (mk1 c t).1 ≠ 0 then ([], ((mk1 c t).1, i)) else apL (i + 1) r (mk1 c t).2
def ap (p : Patch) (t : Tree) : Tree × Int × Int :=
  if vP p ≠ (0, 0) then ([], vP p) else if sec (val t) (-2) ≠ (0, 0) then ([], sec (val t) (-2)) else apL 0 p t
theorem ap_loop {p : Patch} (hl : p.length ≤ 30) (hg : ∀ c, c ∈ p → Good c) {K : Tree → Int → Int → Prop} : ∀ (fu i : Nat) (t : Tree), i ≤ p.length → p.length - i < fu → Inv t → K (apL i (p.drop i) t).1 (apL i (p.drop i) t).2.1 (apL i (p.drop i) t).2.2 →
    L.b1_L1_R p (p.length : Int) fu i t (fun m => K m 0 0) (fun a b => K [] a b)
  | 0, i, _, _, h, _, _ => by omega
  | fu + 1, i, t, hi, h, ht, hK => by
    show L.b1_L1_b p _ i t _ _ _
    unfold L.b1_L1_b
    rcases Nat.lt_or_ge i p.length with g | g
    · rw [drop_cons noChg g, apL] at hK
      refine cond_t (by simp; omega) ⟨inB_of (by omega) (by omega), ?_⟩
      simp only [Int.toNat_natCast]
      have hgc := hg _ (getD_mem noChg g)
      refine mk1_ok (c := p.getD i noChg) hgc ht ?_
      by_cases c : (mk1 (p.getD i noChg) t).1 ≠ 0
      · rw [if_pos c] at hK; exact cond_t (by simpa using c) hK
      · rw [if_neg c] at hK
        refine cond_f (by simpa using c) ?_
        rw [i64_id (by omega) (by omega)]
        exact ap_loop hl hg fu (i + 1) _ (by omega) (by omega) (mk1_inv hgc ht) hK
    · rw [List.drop_eq_nil_of_le g] at hK
      exact cond_f (by simp; omega) hK
theorem ap_ok {p : Patch} {t : Tree} {K : Tree → Int → Int → Prop} (hK : K (ap p t).1 (ap p t).2.1 (ap p t).2.2) : L.b1 p t K := by
  refine ⟨vP_ok ?_⟩
  unfold ap at hK
  by_cases c1 : vP p ≠ (0, 0)
  · rw [if_pos c1] at hK; exact cond_t (fault1 (by exact c1)) ⟨hK, hK⟩
  rw [if_neg c1] at hK
  have c1' := Decidable.not_not.1 c1
  refine cond_f (fault0 (by exact c1')) (valS_ok ?_)
  by_cases c2 : sec (val t) (-2) ≠ (0, 0)
  · rw [if_pos c2] at hK; exact cond_t (fault1 (by exact c2)) ⟨hK, hK⟩
  rw [if_neg c2] at hK
  have c2' := Decidable.not_not.1 c2
  have hi := val_inv (sec_zero val_zero c2')
  obtain ⟨hl, hg⟩ := vP_good c1'
  exact cond_f (fault0 (by exact c2')) (copy_ok hi.1 (fun f hf => (hi.2 f hf).2) ⟨⟨p.length + 1, ap_loop hl hg _ 0 t (by omega) (by omega) hi hK⟩⟩)
end Tp
end Go.Proofs.YtnpjonhoihbaeaaGreatDoor
set_option linter.unusedVariables false
set_option linter.unusedSimpArgs false
namespace Go.Proofs.YtnpjonhoihbaeaaGreatDoor
open Eng Bb
namespace Tp
section
variable (ps : List Patch) (cs : List (List Int)) (base : Tree)
abbrev at_ (k : Nat) (t : Tree) : Tree × Int × Int := ap (ps.getD k []) t
def S : Nat → Tree × List Int
  | 0 => (base, [])
  | k + 1 => if (at_ ps k (S k).1).2 = (0, 0) ∧ fails cs ((S k).2 ++ [(k : Int)]) = false then ((at_ ps k (S k).1).1, (S k).2 ++ [(k : Int)]) else S k
def code (k : Nat) : Int := if (at_ ps k (S ps cs base k).1).2 = (0, 0) then (if fails cs ((S ps cs base k).2 ++ [(k : Int)]) = true then 11 else 0) else (at_ ps k (S ps cs base k).1).2.1
def T (a : Nat) : Nat → Tree × List Int
  | 0 => S ps cs base a
  | d + 1 => if (at_ ps (a + d) (T a d).1).2 = (0, 0) then ((at_ ps (a + d) (T a d).1).1, (T a d).2 ++ [((a + d : Nat) : Int)]) else T a d
def tcode (a d : Nat) : Int := (at_ ps (a + d) (T ps cs base a d).1).2.1
def able : Nat → Nat
  | 0 => 0
  | k + 1 => able k + (if (at_ ps k (S ps cs base k).1).2 = (0, 0) then 1 else 0)
end
variable {ps : List Patch} {cs : List (List Int)} {base : Tree}
theorem S_len : ∀ k, (S ps cs base k).2.length ≤ k
  | 0 => Nat.le_refl _
  | k + 1 => by
    have := S_len k
    rw [S]
    split
    · simp; omega
    · omega
theorem T_len (a : Nat) : ∀ d, (S ps cs base a).2.length ≤ (T ps cs base a d).2.length ∧ (T ps cs base a d).2.length ≤ a + d
  | 0 => ⟨Nat.le_refl _, S_len a⟩
  | d + 1 => by
    have := T_len a d
    rw [T]
    split
    · simp; omega
    · omega
theorem fails_mono {m l : List Int} (h : fails cs (m ++ l) = false) : fails cs m = false := by
  cases c : fails cs m with
  | false => rfl
  | true =>
    obtain ⟨s, hs, hm⟩ := fails_iff.1 c
    have : fails cs (m ++ l) = true := fails_iff.2 ⟨s, hs, fun k hk => List.mem_append.2 (.inl (hm k hk))⟩
    rw [this] at h; cases h
theorem T_same (a : Nat) : ∀ d, (T ps cs base a d).2.length = (S ps cs base a).2.length → T ps cs base a d = S ps cs base (a + d) ∧ ∀ k, k < d → tcode ps cs base a k = code ps cs base (a + k)
  | 0, _ => ⟨rfl, fun k hk => by omega⟩
  | d + 1, h => by
    have h1 : (S ps cs base a).2.length ≤ (T ps cs base a d).2.length := (T_len a d).1
    rw [T] at h ⊢
    by_cases c : (at_ ps (a + d) (T ps cs base a d).1).2 = (0, 0)
    · rw [if_pos c] at h; simp at h; omega
    · rw [if_neg c] at h ⊢
      obtain ⟨e1, e2⟩ := T_same a d h
      rw [e1] at c
      refine ⟨?_, fun k hk => ?_⟩
      · rw [← Nat.add_assoc, S, if_neg (fun hh => c hh.1)]; exact e1
      · by_cases hk2 : k < d
        · exact e2 k hk2
        · obtain rfl : k = d := by omega
          unfold tcode code
          rw [e1, if_neg c]
theorem T_pass (a : Nat) : ∀ d, fails cs (T ps cs base a d).2 = false → T ps cs base a d = S ps cs base (a + d) ∧ ∀ k, k < d → tcode ps cs base a k = code ps cs base (a + k)
  | 0, _ => ⟨rfl, fun k hk => by omega⟩
  | d + 1, h => by
    rw [T] at h ⊢
    by_cases c : (at_ ps (a + d) (T ps cs base a d).1).2 = (0, 0)
    · rw [if_pos c] at h ⊢
      obtain ⟨e1, e2⟩ := T_pass a d (fails_mono h)
      rw [e1] at c h
      refine ⟨?_, fun k hk => ?_⟩
      · rw [← Nat.add_assoc, S, if_pos ⟨c, h⟩, e1]
      · by_cases hk2 : k < d
        · exact e2 k hk2
        · obtain rfl : k = d := by omega
          unfold tcode code
          rw [e1, if_pos c, if_neg (by rw [h]; decide), c]
    · rw [if_neg c] at h ⊢
      obtain ⟨e1, e2⟩ := T_pass a d h
      rw [e1] at c
      refine ⟨?_, fun k hk => ?_⟩
      · rw [← Nat.add_assoc, S, if_neg (fun hh => c hh.1)]; exact e1
      · by_cases hk2 : k < d
        · exact e2 k hk2
        · obtain rfl : k = d := by omega
          unfold tcode code
          rw [e1, if_neg c]
def Upto (ps : List Patch) (cs : List (List Int)) (base : Tree) (b : Nat) (codes : List Int) : Prop := codes.length = ps.length ∧ ∀ k, k < b → codes.getD k 0 = code ps cs base k
theorem getD_set {l : List Int} {i k : Nat} {v : Int} (hi : i < l.length) : (l.set i v).getD k 0 = if k = i then v else l.getD k 0 := by
  rw [List.getD_eq_getElem?_getD, List.getElem?_set]
  by_cases c : k = i
  · subst c; rw [if_pos rfl, if_pos hi, if_pos rfl]; rfl
  · rw [if_neg (fun e => c e.symm), if_neg c, List.getD_eq_getElem?_getD]
theorem try_loop (hn : ps.length ≤ 12) {a : Nat} {b : Nat} (hb : b ≤ ps.length) {K : List Int → Tree → List Int → Prop} :
    ∀ (fu d : Nat) (codes : List Int), a + d ≤ b → b - (a + d) < fu → Upto ps cs base a codes → (∀ k, k < d → codes.getD (a + k) 0 = tcode ps cs base a k) →
      (∀ codes', Upto ps cs base a codes' → (∀ k, k < b - a → codes'.getD (a + k) 0 = tcode ps cs base a k) → K codes' (T ps cs base a (b - a)).1 (T ps cs base a (b - a)).2) →
      L.b0_L1_R (b : Int) ps fu ((a + d : Nat) : Int) codes (T ps cs base a d).1 (T ps cs base a d).2 K
  | 0, d, _, _, h, _, _, _ => by omega
  | fu + 1, d, codes, hd, h, hu, ht, hK => by
    show L.b0_L1_b (b : Int) ps ((a + d : Nat) : Int) codes (T ps cs base a d).1 (T ps cs base a d).2 _ _
    unfold L.b0_L1_b
    by_cases g : a + d < b
    · have hl : (T ps cs base a d).2.length ≤ a + d := (T_len a d).2
      have hi : inB ((a + d : Nat) : Int) codes.length := inB_of (by omega) (by rw [hu.1]; omega)
      have hfit : fits ((T ps cs base a d).2.length + ([((a + d : Nat) : Int)] : List Int).length) := by unfold fits; simp; omega
      have hlt : a + d < codes.length := by rw [hu.1]; omega
      have hu' : Upto ps cs base a (codes.set (a + d) (tcode ps cs base a d)) := ⟨by rw [List.length_set]; exact hu.1, fun k hk => by rw [getD_set hlt, if_neg (by omega)]; exact hu.2 k hk⟩
      have ht' : ∀ k, k < d + 1 → (codes.set (a + d) (tcode ps cs base a d)).getD (a + k) 0 = tcode ps cs base a k := fun k hk => by
        rw [getD_set hlt]
        by_cases c : k = d
        · subst c; rw [if_pos rfl]
        · rw [if_neg (by omega)]; exact ht k (by omega)
      have next := try_loop hn hb (K := K) fu (d + 1) _ (by omega) (by omega) hu' ht' hK
      have ei : i64 (((a + d : Nat) : Int) + 1) = ((a + (d + 1) : Nat) : Int) := by rw [i64_id (by omega) (by omega)]; omega
      refine cond_t (decide_eq_true (by omega)) ⟨inB_of (by omega) (by omega), ?_⟩
      simp only [Int.toNat_natCast]
      rw [ei]
      have e2 : (T ps cs base a (d + 1)) = if (at_ ps (a + d) (T ps cs base a d).1).2 = (0, 0) then ((at_ ps (a + d) (T ps cs base a d).1).1, (T ps cs base a d).2 ++ [((a + d : Nat) : Int)]) else T ps cs base a d := rfl
      by_cases c : (at_ ps (a + d) (T ps cs base a d).1).2 = (0, 0)
      · rw [if_pos c] at e2
        rw [e2] at next
        have c' : (((at_ ps (a + d) (T ps cs base a d).1).2.1 == 0) && (((at_ ps (a + d) (T ps cs base a d).1).2.2 == 0) && true)) = true := by rw [c]; rfl
        have one : fits ((T ps cs base a d).2.length + ([((a + d : Nat) : Int)] : List Int).length) ∧ L.b0_L1_R (b : Int) ps fu ((a + (d + 1) : Nat) : Int) (codes.set (a + d) (at_ ps (a + d) (T ps cs base a d).1).2.1) (at_ ps (a + d) (T ps cs base a d).1).1 ((T ps cs base a d).2 ++ ([((a + d : Nat) : Int)] : List Int)) K := ⟨hfit, next⟩
        refine ⟨ap_ok ⟨⟨hi, ?_⟩, hi, ?_⟩, ⟨ap_ok ⟨hi, ?_⟩, ap_ok ⟨hi, ?_⟩⟩, ap_ok ⟨hi, ?_⟩, ap_ok ⟨hi, ?_⟩⟩
        all_goals exact cond_t c' ⟨one, one, one⟩
      · rw [if_neg c] at e2
        rw [e2] at next
        have c' : (((at_ ps (a + d) (T ps cs base a d).1).2.1 == 0) && (((at_ ps (a + d) (T ps cs base a d).1).2.2 == 0) && true)) = false := by
          have := fault1 (a := (at_ ps (a + d) (T ps cs base a d).1).2.1) (b := (at_ ps (a + d) (T ps cs base a d).1).2.2) c
          rwa [Bool.not_eq_true'] at this
        refine ⟨ap_ok ⟨⟨hi, ?_⟩, hi, ?_⟩, ⟨ap_ok ⟨hi, ?_⟩, ap_ok ⟨hi, ?_⟩⟩, ap_ok ⟨hi, ?_⟩, ap_ok ⟨hi, ?_⟩⟩
        all_goals exact cond_f c' next
    · obtain rfl : a + d = b := by omega
      refine cond_f (decide_eq_false (by omega)) ?_
      have e : a + d - a = d := by omega
      rw [e] at hK
      exact hK codes hu ht
def Tests (ps : List Patch) (cs : List (List Int)) (base : Tree) (a b : Nat) (n : Int) : Prop := 0 ≤ n ∧ n ≤ 2 * (b - a : Nat) - 1 ∧ (cs = [] → n ≤ 1) ∧ (b = a + 1 → n = if (at_ ps a (S ps cs base a).1).2 = (0, 0) then 1 else 0) ∧ (S ps cs base a ≠ S ps cs base b → 1 ≤ n)
theorem T_one {a : Nat} : (T ps cs base a 1).2.length = (S ps cs base a).2.length ↔ (at_ ps a (S ps cs base a).1).2 ≠ (0, 0) := by
  show (if (at_ ps (a + 0) (S ps cs base a).1).2 = (0, 0) then ((at_ ps (a + 0) (S ps cs base a).1).1, (S ps cs base a).2 ++ [((a + 0 : Nat) : Int)]) else S ps cs base a).2.length = _ ↔ _
  rw [Nat.add_zero]
  by_cases c : (at_ ps a (S ps cs base a).1).2 = (0, 0)
  · rw [if_pos c]; simp [c]
  · rw [if_neg c]; simp [c]
theorem proc_ok (hn : ps.length ≤ 12) (hl : big cs.length) (hs : ∀ s, s ∈ cs → big s.length) : ∀ (fu a b : Nat) (n : Int) (codes : List Int), a < b → b ≤ ps.length → b - a ≤ fu → 0 ≤ n → n ≤ 1000 - 2 * (b - a : Nat) → Upto ps cs base a codes →
    ∀ {K : Tree → List Patch → List (List Int) → List Int → Int → List Int → Prop}, (∀ codes' n', Upto ps cs base b codes' → Tests ps cs base a b n' → K (S ps cs base b).1 ps cs (S ps cs base b).2 (n + n') codes') →
      L.b0_R fu (a : Int) (b : Int) (S ps cs base a).1 ps cs (S ps cs base a).2 n codes K
  | 0, a, b, _, _, h1, _, h2, _, _, _, _, _ => by omega
  | fu + 1, a, b, n, codes, hab, hb, hfu, hn0, hn1, hu, K, hK => by
    show L.b0_B (a : Int) (b : Int) (S ps cs base a).1 ps cs (S ps cs base a).2 n codes (L.b0_R fu) K
    unfold L.b0_B
    have hSl : (S ps cs base a).2.length ≤ a := S_len a
    refine Clone_ok (by omega) ⟨⟨b - a + 1, ?_⟩⟩
    refine try_loop (cs := cs) (base := base) hn hb (b - a + 1) 0 codes (by omega) (by omega) hu (fun k hk => by omega) (fun codes' hu' ht' => ?_)
    have hTl : (S ps cs base a).2.length ≤ (T ps cs base a (b - a)).2.length ∧ (T ps cs base a (b - a)).2.length ≤ a + (b - a) := T_len a (b - a)
    have eab : a + (b - a) = b := by omega
    have upto : (∀ k, k < b - a → tcode ps cs base a k = code ps cs base (a + k)) → Upto ps cs base b codes' := fun h => ⟨hu'.1, fun k hk => by
      by_cases c : k < a
      · exact hu'.2 k c
      · have := ht' (k - a) (by omega)
        rw [show a + (k - a) = k by omega] at this
        rw [this, h (k - a) (by omega), show a + (k - a) = k by omega]⟩
    by_cases c1 : (T ps cs base a (b - a)).2.length = (S ps cs base a).2.length
    · obtain ⟨e1, e2⟩ := T_same a (b - a) c1
      refine cond_t (by simp only [beq_iff_eq]; omega) ?_
      rw [eab] at e1
      have e3 : S ps cs base a = S ps cs base b := by
        rw [← e1]
        have hT : ∀ d, (T ps cs base a d).2.length = (S ps cs base a).2.length → T ps cs base a d = S ps cs base a := by
          intro d
          induction d with
          | zero => intro _; rfl
          | succ d ih =>
            intro h
            have h1 : (S ps cs base a).2.length ≤ (T ps cs base a d).2.length := (T_len a d).1
            rw [T] at h ⊢
            split at h
            · simp at h; omega
            · rename_i c; rw [if_neg c]; exact ih h
        exact (hT _ c1).symm
      have hK' := hK codes' 0 (upto e2) ⟨by omega, by omega, fun _ => by omega, fun e => ?_, fun h => absurd e3 h⟩
      · rw [Int.add_zero] at hK'
        rw [e3]; exact hK'
      · rw [show b - a = 1 by omega] at c1
        rw [if_neg (T_one.1 c1)]
    · refine cond_f (by simp only [beq_eq_false_iff_ne]; omega) (Run_ok hl hs (by unfold big; omega) ?_)
      have en : i64 (n + 1) = n + 1 := i64_id (by omega) (by omega)
      rw [en]
      cases c2 : fails cs (T ps cs base a (b - a)).2 with
      | false =>
        obtain ⟨e1, e2⟩ := T_pass a (b - a) c2
        rw [eab] at e1
        rw [e1]
        have hK' := hK codes' 1 (upto e2) ⟨by omega, by omega, fun _ => by omega, fun e => ?_, fun _ => by omega⟩
        · exact cond_t rfl ⟨hK', hK'⟩
        · rw [show b - a = 1 by omega] at c1
          rw [if_pos (Decidable.not_not.1 (fun h => c1 (T_one.2 h)))]
      | true =>
        have hcs : cs ≠ [] := by
          rintro rfl
          simp [fails] at c2
        refine cond_f rfl ?_
        have e1 : i64 ((b : Int) - (a : Int)) = ((b - a : Nat) : Int) := by rw [i64_id (by omega) (by omega)]; omega
        rw [e1]
        by_cases c3 : b - a = 1
        · have hb1 : b = a + 1 := by omega
          subst hb1
          have e0 : a + 1 - a = 1 := by omega
          rw [e0] at c1 c2
          have hap : (at_ ps a (S ps cs base a).1).2 = (0, 0) := Decidable.not_not.1 (fun h => c1 (T_one.2 h))
          have eT : (T ps cs base a 1).2 = (S ps cs base a).2 ++ [(a : Int)] := by
            show (if (at_ ps (a + 0) (S ps cs base a).1).2 = (0, 0) then ((at_ ps (a + 0) (S ps cs base a).1).1, (S ps cs base a).2 ++ [((a + 0 : Nat) : Int)]) else S ps cs base a).2 = _
            rw [Nat.add_zero, if_pos hap]
          rw [eT] at c2
          have eS : S ps cs base (a + 1) = S ps cs base a := by rw [S, if_neg (fun hh => by rw [c2] at hh; exact absurd hh.2 (by decide))]
          have ha : a < codes'.length := by rw [hu'.1]; omega
          refine cond_t (by rw [c3]; rfl) ⟨inB_of (by omega) (by omega), ?_⟩
          rw [Int.toNat_natCast]
          have hK' := hK (codes'.set a 11) 1 ⟨by rw [List.length_set]; exact hu'.1, fun k hk => ?_⟩ ⟨by omega, by omega, fun _ => by omega, fun e => by rw [if_pos hap], fun _ => by omega⟩
          · rw [eS] at hK'; exact hK'
          · rw [getD_set ha]
            by_cases hka : k = a
            · subst hka
              rw [if_pos rfl]
              unfold code
              rw [if_pos hap, if_pos c2]
            · rw [if_neg hka]; exact hu'.2 k (by omega)
        · have e2 : ((b - a : Nat) : Int).tdiv 2 = (((b - a) / 2 : Nat) : Int) := by
            rw [Int.tdiv_eq_ediv_of_nonneg (by omega)]; omega
          have e3 : i64 ((a : Int) + i64 (((b - a : Nat) : Int).tdiv 2)) = ((a + (b - a) / 2 : Nat) : Int) := by
            rw [e2, i64_id (n := (((b - a) / 2 : Nat) : Int)) (by omega) (by omega), i64_id (by omega) (by omega)]; omega
          refine cond_f (by simp only [beq_eq_false_iff_ne]; omega) ⟨by decide, ?_⟩
          rw [e3]
          refine proc_ok hn hl hs fu a (a + (b - a) / 2) (n + 1) codes' (by omega) (by omega) (by omega) (by omega) (by omega) hu' (fun codes2 n2 hu2 ht2 => ?_)
          obtain ⟨q0, q1, q2, q3, q4⟩ := ht2
          refine proc_ok hn hl hs fu (a + (b - a) / 2) b (n + 1 + n2) codes2 (by omega) hb (by omega) (by omega) (by omega) hu2 (fun codes3 n3 hu3 ht3 => ?_)
          obtain ⟨w0, w1, w2, w3, w4⟩ := ht3
          have := hK codes3 (1 + n2 + n3) hu3 ⟨by omega, by omega, fun e => absurd e hcs, fun e => by omega, fun _ => by omega⟩
          rw [show n + 1 + n2 + n3 = n + (1 + n2 + n3) by omega]
          exact this
end Tp
end Go.Proofs.YtnpjonhoihbaeaaGreatDoor
set_option linter.unusedVariables false
set_option linter.unusedSimpArgs false
namespace Go.Proofs.YtnpjonhoihbaeaaGreatDoor
open Eng Bb
namespace Tp
def ltr (i : Nat) : ByteArray := L.str1.extract i (i + 1)
def pt (i : Nat) : Patch := [(1, (ltr i, (L.str2, ([ltr i], []))))]
def tr (A : List Nat) : Tree := A.map fun i => (ltr i, [ltr i])
theorem l_vp : ∀ i : Nat, i < 12 → La.vp_R (ltr i) = true := by decide +kernel
theorem l_lin : ∀ i : Nat, i < 12 → lin [ltr i] = (0, 0) := by decide +kernel
theorem l_le : ∀ i : Nat, i < 12 → ∀ j : Nat, j < 12 → i < j → le (ltr j) (ltr i) = false := by decide +kernel
theorem l_rel : ∀ i : Nat, i < 12 → ∀ j : Nat, j < 12 → i ≠ j → rel (ltr i) (ltr j) = false := by decide +kernel
theorem l_cmp : ∀ i : Nat, i < 12 → ∀ j : Nat, j < 12 → i < j → La.cmp_R (ltr i) (ltr j) < 0 := by decide +kernel
theorem l_vP : ∀ i : Nat, i < 12 → vP (pt i) = (0, 0) := by decide +kernel
theorem clash_no {k : Nat} (hk : k < 12) : ∀ (A : List Nat) (n : Nat), (∀ i, i ∈ A → i < 12 ∧ i ≠ k) → clashL (ltr k) (-1) n (tr A) = false
  | [], n, h => rfl
  | i :: A, n, h => by
    have hi := h i (by simp)
    show clashL (ltr k) (-1) n ((ltr i, [ltr i]) :: tr A) = false
    rw [clashL, l_rel i hi.1 k hk hi.2, Bool.and_false]
    exact clash_no hk A (n + 1) fun j hj => h j (by simp [hj])
theorem tr_len (A : List Nat) : (tr A).length = A.length := List.length_map ..
theorem tr_app (A C : List Nat) : tr (A ++ C) = tr A ++ tr C := List.map_append ..
theorem tr_get {A : List Nat} {i : Nat} (h : i < A.length) : (tr A).getD i noFile = (ltr A[i], [ltr A[i]]) := by
  unfold tr
  rw [List.getD_eq_getElem?_getD, List.getElem?_map, List.getElem?_eq_getElem h]
  rfl
def Up (k : Nat) (A : List Nat) : Prop := A.Pairwise (· < ·) ∧ ∀ i, i ∈ A → i < k
theorem valL_tr {A : List Nat} (hA : Up 12 A) : ∀ (Q P : List Nat), A = P ++ Q → valL (tr A) P.length (tr Q) = (0, 0)
  | [], P, e => rfl
  | i :: Q, P, e => by
    have hi : i < 12 := hA.2 i (by rw [e]; simp)
    have hpw := hA.1
    rw [e] at hpw
    obtain ⟨p1, p2, p3⟩ := List.pairwise_append.1 hpw
    show valL (tr A) P.length ((ltr i, [ltr i]) :: tr Q) = (0, 0)
    rw [valL]
    have c1 : ¬ La.vp_R (ltr i) = false := by rw [l_vp i hi]; simp
    rw [if_neg c1]
    have c2 : ¬ (decide (0 < P.length) && le (ltr i) ((tr A).getD (P.length - 1) noFile).1) = true := by
      rcases Nat.eq_zero_or_pos P.length with g | g
      · rw [decide_eq_false (by omega)]; simp
      · have hl : P.length - 1 < A.length := by rw [e, List.length_append]; omega
        have eg : A[P.length - 1] = P[P.length - 1] := by
          simp only [e]
          exact List.getElem_append_left (by omega)
        have hm : P[P.length - 1] ∈ P := List.getElem_mem _
        rw [tr_get hl]
        show ¬ (decide (0 < P.length) && le (ltr i) (ltr A[P.length - 1])) = true
        have key : ∀ z, z ∈ P → le (ltr i) (ltr z) = false := fun z hz => l_le z (hA.2 z (by rw [e]; simp [hz])) i hi (p3 z hz i (by simp))
        rw [eg, key _ hm, Bool.and_false]
        simp
    rw [if_neg c2]
    have et : (tr A).take P.length = tr P := by rw [e, tr_app, List.take_left' (tr_len P)]
    have c3 : ¬ clash ((tr A).take P.length) (ltr i) (-1) = true := by
      rw [et]
      unfold clash
      rw [clash_no hi P 0 fun j hj => ⟨hA.2 j (by rw [e]; simp [hj]), by have := p3 j hj i (by simp); omega⟩]
      simp
    rw [if_neg c3]
    have c4 : sec (lin [ltr i]) P.length = (0, 0) := by rw [l_lin i hi]; rfl
    rw [if_pos c4]
    have := valL_tr hA Q (P ++ [i]) (by rw [e]; simp)
    rw [List.length_append, List.length_singleton] at this
    exact this
theorem val_tr {A : List Nat} (hA : Up 12 A) (hl : A.length ≤ 24) : val (tr A) = (0, 0) := by
  unfold val
  rw [if_neg (by rw [tr_len]; omega)]
  exact valL_tr hA A [] rfl
theorem bs_tr {A : List Nat} {k : Nat} (hk : k < 12) (hA : ∀ i, i ∈ A → i < 12 ∧ i < k) : ∀ (n i j : Nat), i ≤ j → j = A.length → j - i < n → bsL (tr A) (ltr k) n i j = A.length
  | 0, i, j, h1, h2, h3 => by omega
  | n + 1, i, j, h1, h2, h3 => by
    rw [bsL]
    by_cases h : i < j
    · have hm : (i + j) / 2 < A.length := by omega
      have hmem := hA _ (List.getElem_mem hm)
      rw [if_pos h, tr_get hm, if_pos (l_cmp _ hmem.1 k hk hmem.2)]
      exact bs_tr hk hA n _ j (by omega) h2 (by omega)
    · rw [if_neg h]; omega
theorem ap_tr {A : List Nat} {k : Nat} (hk : k < 12) (hA : Up k A) (hl : A.length ≤ 12) : ap (pt k) (tr A) = (tr (A ++ [k]), (0, 0)) := by
  have hA' : Up 12 A := ⟨hA.1, fun i hi => by have := hA.2 i hi; omega⟩
  have hb : place (tr A) (ltr k) = A.length := by
    unfold place
    rw [tr_len]
    exact bs_tr hk (fun i hi => ⟨hA'.2 i hi, hA.2 i hi⟩) _ 0 _ (by omega) rfl (by omega)
  have hf : found (tr A) (ltr k) = false := by
    unfold found
    rw [hb, tr_len, decide_eq_false (by omega)]
    rfl
  have hc : clash (tr A) (ltr k) (-1) = false := clash_no hk A 0 fun i hi => ⟨hA'.2 i hi, by have := hA.2 i hi; omega⟩
  have hp : put (ltr k) [ltr k] (tr A) = tr (A ++ [k]) := by
    unfold put
    rw [if_neg (by rw [hf]; simp), hb]
    unfold ins setL
    have e1 : (tr A).take A.length = tr A := List.take_of_length_le (by rw [tr_len]; omega)
    have e2 : (tr A).drop A.length = [] := List.drop_eq_nil_of_le (by rw [tr_len]; omega)
    rw [e1, e2, List.append_nil, tr_app]
    have e3 : (tr A ++ [(ltr k, [])]).getD A.length noFile = (ltr k, []) := by
      rw [List.getD_eq_getElem?_getD, List.getElem?_append_right (by rw [tr_len]; omega), tr_len, Nat.sub_self]
      rfl
    rw [e3, List.set_append_right _ _ (by rw [tr_len]; omega), tr_len, Nat.sub_self]
    rfl
  unfold ap
  rw [l_vP k hk, val_tr hA' (by omega)]
  have c1 : ¬ (((0, 0) : Int × Int) ≠ (0, 0)) := by simp
  have c2 : ¬ (sec ((0, 0) : Int × Int) (-2) ≠ (0, 0)) := by decide
  rw [if_neg c1, if_neg c2]
  show apL 0 [(1, (ltr k, (L.str2, ([ltr k], []))))] (tr A) = _
  have hm : mk1 (1, (ltr k, (L.str2, ([ltr k], [])))) (tr A) = (0, tr (A ++ [k])) := by
    unfold mk1
    rw [if_pos rfl]
    show (if clash (tr A) (ltr k) (-1) = true then _ else if 24 ≤ (tr A).length then _ else _) = _
    rw [hc, if_neg (by simp), if_neg (by rw [tr_len]; omega)]
    show (0, put (ltr k) [ltr k] (tr A)) = _
    rw [hp]
  rw [apL, hm, if_neg (by simp), apL]
def ac (cs : List (List Int)) : Nat → List Nat
  | 0 => []
  | k + 1 => if fails cs ((ac cs k ++ [k]).map fun (i : Nat) => (i : Int)) = false then ac cs k ++ [k] else ac cs k
theorem ac_up (cs : List (List Int)) : ∀ k, Up k (ac cs k) ∧ (ac cs k).length ≤ k
  | 0 => ⟨⟨.nil, fun i hi => by cases hi⟩, Nat.le_refl _⟩
  | k + 1 => by
    obtain ⟨⟨h1, h2⟩, h3⟩ := ac_up cs k
    rw [ac]
    split
    · refine ⟨⟨List.pairwise_append.2 ⟨h1, List.pairwise_singleton _ _, fun x hx y hy => ?_⟩, fun i hi => ?_⟩, by simp; omega⟩
      · rw [List.mem_singleton.1 hy]; exact h2 x hx
      · rcases List.mem_append.1 hi with hi | hi
        · have := h2 i hi; omega
        · rw [List.mem_singleton.1 hi]; omega
    · exact ⟨⟨h1, fun i hi => by have := h2 i hi; omega⟩, by omega⟩
theorem S_tr {ps : List Patch} {cs : List (List Int)} {n : Nat} (hn : n ≤ 12) (hps : ∀ k, k < n → ps.getD k [] = pt k) : ∀ k, k ≤ n → S ps cs [] k = (tr (ac cs k), (ac cs k).map fun (i : Nat) => (i : Int))
  | 0, _ => rfl
  | k + 1, hk => by
    have ih := S_tr hn hps (cs := cs) k (by omega)
    obtain ⟨h1, h2⟩ := ac_up cs k
    have e : at_ ps k (S ps cs [] k).1 = (tr (ac cs k ++ [k]), (0, 0)) := by
      show ap (ps.getD k []) (S ps cs [] k).1 = _
      rw [hps k (by omega), ih]
      exact ap_tr (by omega) h1 (by omega)
    rw [S, e, ih, ac]
    have em : ((ac cs k).map fun (i : Nat) => (i : Int)) ++ [(k : Int)] = (ac cs k ++ [k]).map fun (i : Nat) => (i : Int) := by simp
    show (if ((0, 0) : Int × Int) = (0, 0) ∧ fails cs (((ac cs k).map fun (i : Nat) => (i : Int)) ++ [(k : Int)]) = false then (tr (ac cs k ++ [k]), ((ac cs k).map fun (i : Nat) => (i : Int)) ++ [(k : Int)]) else _) = _
    rw [em]
    by_cases h : fails cs ((ac cs k ++ [k]).map fun (i : Nat) => (i : Int)) = false
    · rw [if_pos ⟨rfl, h⟩, if_pos h]
    · rw [if_neg fun g => h g.2, if_neg h]
theorem code_tr {ps : List Patch} {cs : List (List Int)} {n : Nat} (hn : n ≤ 12) (hps : ∀ k, k < n → ps.getD k [] = pt k) {k : Nat} (hk : k < n) : code ps cs [] k = if fails cs ((ac cs k ++ [k]).map fun (i : Nat) => (i : Int)) = true then 11 else 0 := by
  have ih := S_tr hn hps (cs := cs) k (by omega)
  obtain ⟨h1, h2⟩ := ac_up cs k
  have e : at_ ps k (S ps cs [] k).1 = (tr (ac cs k ++ [k]), (0, 0)) := by
    show ap (ps.getD k []) (S ps cs [] k).1 = _
    rw [hps k (by omega), ih]
    exact ap_tr (by omega) h1 (by omega)
  have em : ((ac cs k).map fun (i : Nat) => (i : Int)) ++ [(k : Int)] = (ac cs k ++ [k]).map fun (i : Nat) => (i : Int) := by simp
  unfold code
  rw [e, if_pos rfl, ih]
  show (if fails cs (((ac cs k).map fun (i : Nat) => (i : Int)) ++ [(k : Int)]) = true then 11 else 0) = _
  rw [em]
theorem ac_mem (cs : List (List Int)) {k : Nat} : ∀ n, k < n → (k ∈ ac cs n ↔ fails cs ((ac cs k ++ [k]).map fun (i : Nat) => (i : Int)) = false)
  | 0, h => by omega
  | n + 1, h => by
    have hn := (ac_up cs n).1.2
    rw [ac]
    rcases Nat.lt_or_ge k n with g | g
    · rw [← ac_mem cs n g]
      split
      · simp; omega
      · rfl
    · obtain rfl : k = n := by omega
      by_cases h : fails cs ((ac cs k ++ [k]).map fun (i : Nat) => (i : Int)) = false
      · rw [if_pos h]; exact ⟨fun _ => h, fun _ => by simp⟩
      · rw [if_neg h]
        exact ⟨fun g => absurd (hn k g) (by omega), fun g => absurd g h⟩
end Tp
end Go.Proofs.YtnpjonhoihbaeaaGreatDoor
set_option linter.unusedVariables false
set_option linter.unusedSimpArgs false
namespace Go.Proofs.YtnpjonhoihbaeaaGreatDoor
open Eng Bb
namespace Tp
theorem apL_inv : ∀ (p : Patch) (i : Nat) (t : Tree), (∀ c, c ∈ p → Good c) → Inv t → (apL i p t).2 = (0, 0) → Inv (apL i p t).1
  | [], _, _, _, ht, _ => ht
  | a :: r, i, t, hg, ht, h => by
    rw [apL] at h ⊢
    by_cases c1 : (mk1 a t).1 ≠ 0
    · rw [if_pos c1] at h; exact absurd (congrArg Prod.fst h) c1
    · rw [if_neg c1] at h ⊢
      exact apL_inv r _ _ (fun c hc => hg c (List.mem_cons_of_mem _ hc)) (mk1_inv (hg a (List.mem_cons_self ..)) ht) h
theorem ap_inv {p : Patch} {t : Tree} (h : (ap p t).2 = (0, 0)) : Inv (ap p t).1 := by
  unfold ap at h ⊢
  by_cases c1 : vP p ≠ (0, 0)
  · rw [if_pos c1] at h; exact absurd h c1
  rw [if_neg c1] at h ⊢
  by_cases c2 : sec (val t) (-2) ≠ (0, 0)
  · rw [if_pos c2] at h; exact absurd h c2
  rw [if_neg c2] at h ⊢
  exact apL_inv _ _ _ (vP_good (Decidable.not_not.1 c1)).2 (val_inv (sec_zero val_zero (Decidable.not_not.1 c2))) h
theorem S_inv {ps : List Patch} {cs : List (List Int)} {base : Tree} (hb : Inv base) : ∀ k, Inv (S ps cs base k).1
  | 0 => hb
  | k + 1 => by
    rw [S]
    split
    · rename_i c; exact ap_inv c.1
    · exact S_inv hb k
def psL : Nat → List Patch → Int × Int
  | _, [] => (0, 0)
  | i, p :: r => if sec (vP p) i ≠ (0, 0) then sec (vP p) i else psL (i + 1) r
def openF (ps : List Patch) (cs : List (List Int)) (base : Tree) : Int × Int :=
  if sec (val base) (-2) ≠ (0, 0) then sec (val base) (-2) else if 12 < ps.length then (2, -1) else if psL 0 ps ≠ (0, 0) then psL 0 ps else sec (vf ps.length cs) (-3)
variable {ps : List Patch} {cs : List (List Int)} {base : Tree}
theorem ps_loop (hl : ps.length ≤ 12) {Q : Prop} {K : Int → Int → Prop} : ∀ (fu i : Nat), i ≤ ps.length → ps.length - i < fu → (psL i (ps.drop i) = (0, 0) → Q) → (psL i (ps.drop i) ≠ (0, 0) → K (psL i (ps.drop i)).1 (psL i (ps.drop i)).2) → L.b6_L1_R ps (ps.length : Int) fu i Q K
  | 0, i, _, h, _, _ => by omega
  | fu + 1, i, hi, h, hQ, hK => by
    show L.b6_L1_b ps _ i _ _ _
    unfold L.b6_L1_b
    rcases Nat.lt_or_ge i ps.length with g | g
    · rw [drop_cons ([] : Patch) g, psL] at hK hQ
      refine cond_t (by simp; omega) ⟨inB_of (by omega) (by omega), ?_⟩
      simp only [Int.toNat_natCast]
      refine vPS_ok ?_
      by_cases c : sec (vP (ps.getD i [])) i ≠ (0, 0)
      · rw [if_pos c] at hK
        exact cond_t (fault1 (by exact c)) (hK c)
      · rw [if_neg c] at hK hQ
        refine cond_f (fault0 (Decidable.not_not.1 c)) ?_
        rw [i64_id (by omega) (by omega)]
        exact ps_loop hl fu (i + 1) (by omega) (by omega) hQ hK
    · rw [List.drop_eq_nil_of_le g] at hQ
      exact cond_f (by simp; omega) (hQ rfl)
theorem open_ok (hs : ∀ s, s ∈ cs → big s.length) {K : Int → Int → Prop} {K2 : Int → Int → List Patch → List (List Int) → Int → Tree → List Int → Prop}
    (h1 : openF ps cs base ≠ (0, 0) → K (openF ps cs base).1 (openF ps cs base).2)
    (h2 : openF ps cs base = (0, 0) → ps.length ≤ 12 → Inv base → vf ps.length cs = (0, 0) → K2 0 0 ps cs 0 base (List.replicate ps.length 0)) : L.b6 base ps cs K K2 := by
  refine ⟨valS_ok ?_⟩
  unfold openF at h1 h2
  by_cases c1 : sec (val base) (-2) ≠ (0, 0)
  · rw [if_pos c1] at h1; exact cond_t (fault1 (by exact c1)) (h1 c1)
  rw [if_neg c1] at h1 h2
  have c1' := Decidable.not_not.1 c1
  have hb := val_inv (sec_zero val_zero c1')
  refine cond_f (fault0 (by exact c1')) ?_
  by_cases c2 : 12 < ps.length
  · rw [if_pos c2] at h1; exact cond_t (decide_eq_true (by omega)) (h1 (by simp))
  rw [if_neg c2] at h1 h2
  refine cond_f (decide_eq_false (by omega)) ⟨⟨ps.length + 1, ps_loop (by omega) _ 0 (by omega) (by omega) (fun hz => ?_) (fun hz => ?_)⟩⟩
  · rw [List.drop_zero] at hz
    rw [if_neg (fun h => h hz)] at h1 h2
    refine Validate_ok hs ?_
    by_cases c4 : vf ps.length cs = (0, 0)
    · have e : sec (vf ps.length cs) (-3) = (0, 0) := by unfold sec; rw [if_pos c4]
      have hk := h2 e (by omega) hb c4
      refine cond_f (fault0 (by exact c4)) ?_
      rw [Int.toNat_natCast]
      have q : (0 ≤ (ps.length : Int) ∧ (ps.length : Int) ≤ (ps.length : Int) ∧ (ps.length : Int) ≤ 1073741824) := by omega
      have cp : ∀ {k : Tree → Prop}, k base → L.a9 base k := fun hk => copy_ok hb.1 (fun f hf => (hb.2 f hf).2) hk
      exact ⟨cp ⟨q, hk⟩, cp ⟨q, hk⟩, q, cp hk⟩
    · have e : sec (vf ps.length cs) (-3) = ((vf ps.length cs).1, -3) := by unfold sec; rw [if_neg c4]
      rw [e] at h1
      exact cond_t (fault1 (by exact c4)) (h1 (by simp))
  · rw [List.drop_zero] at hz ⊢
    rw [if_pos hz] at h1
    exact h1 hz
def Facts (ps : List Patch) (cs : List (List Int)) (base : Tree) (s i : Nat) (n : Int) : Prop := 0 ≤ n ∧ n ≤ 2 * (min i ps.length : Nat) ∧ (cs = [] → n * s ≤ i) ∧ (s = 1 → n = (able ps cs base (min i ps.length) : Nat)) ∧ (S ps cs base 0 ≠ S ps cs base (min i ps.length) → 1 ≤ n)
theorem run_loop (hn : ps.length ≤ 12) (hl : big cs.length) (hs : ∀ s, s ∈ cs → big s.length) {s : Nat} (h0 : 1 ≤ s) (h1 : s ≤ 12)
    {K : Tree → List Patch → List (List Int) → List Int → Int → List Int → Prop} (hK : ∀ i codes n, i < ps.length + s → Upto ps cs base ps.length codes → ps.length ≤ i → Facts ps cs base s i n → K (S ps cs base ps.length).1 ps cs (S ps cs base ps.length).2 n codes) :
    ∀ (fu i : Nat) (codes : List Int) (n : Int), ps.length - i < fu → i < ps.length + s → Upto ps cs base (min i ps.length) codes → Facts ps cs base s i n →
      L.b7_L1_R ps (s : Int) fu (i : Int) (S ps cs base (min i ps.length)).1 ps cs (S ps cs base (min i ps.length)).2 n codes K
  | 0, i, _, _, h, _, _, _ => by omega
  | fu + 1, i, codes, n, h, hi, hu, hF => by
    show L.b7_L1_b ps (s : Int) (i : Int) (S ps cs base (min i ps.length)).1 ps cs (S ps cs base (min i ps.length)).2 n codes _ _
    unfold L.b7_L1_b
    rcases Nat.lt_or_ge i ps.length with g | g
    · have em : min i ps.length = i := by omega
      rw [em] at hu ⊢
      have e1 : i64 ((i : Int) + (s : Int)) = ((i + s : Nat) : Int) := by rw [i64_id (by omega) (by omega)]; omega
      have e2 : amn ((i + s : Nat) : Int) (ps.length : Int) = ((min (i + s) ps.length : Nat) : Int) := by unfold amn; split <;> omega
      rw [e1, e2]
      obtain ⟨f0, f1, f2, f3, f4⟩ := hF
      rw [em] at f1 f3 f4
      refine cond_t (decide_eq_true (by omega)) ⟨⟨min (i + s) ps.length - i, proc_ok hn hl hs _ i (min (i + s) ps.length) n codes (by omega) (by omega) (by omega) f0 (by omega) hu (fun codes' n' hu' ht => ?_)⟩⟩
      obtain ⟨t0, t1, t2, t3, t4⟩ := ht
      refine run_loop hn hl hs h0 h1 hK fu (i + s) codes' (n + n') (by omega) (by omega) hu' ⟨by omega, by omega, fun e => ?_, fun e => ?_, fun e => ?_⟩
      · have a1 := f2 e
        have a2 := t2 e
        have a3 : n' * (s : Int) ≤ 1 * (s : Int) := Int.mul_le_mul_of_nonneg_right a2 (by omega)
        rw [Int.add_mul]
        omega
      · subst e
        have em2 : min (i + 1) ps.length = i + 1 := by omega
        rw [em2] at t3 ⊢
        rw [f3 rfl, t3 rfl]
        show _ = ((able ps cs base i + (if (at_ ps i (S ps cs base i).1).2 = (0, 0) then 1 else 0) : Nat) : Int)
        split <;> simp
      · by_cases q : S ps cs base 0 = S ps cs base i
        · rw [q] at e; have := t4 e; omega
        · have := f4 q; omega
    · have em : min i ps.length = ps.length := by omega
      rw [em] at hu ⊢
      exact cond_f (decide_eq_false (by omega)) (hK i codes n hi hu g hF)
def Count (ps : List Patch) (cs : List (List Int)) (base : Tree) (s : Int) (n : Int) : Prop := 0 ≤ n ∧ n ≤ 2 * ps.length ∧ (cs = [] → n * s ≤ ps.length + s - 1) ∧ (s = 1 → n = (able ps cs base ps.length : Nat)) ∧ (S ps cs base 0 ≠ S ps cs base ps.length → 1 ≤ n)
theorem run_ok (hs : ∀ s, s ∈ cs → big s.length) {size : Int} {K : Int → Int → Int → Tree → List Int → Prop}
    (h1 : openF ps cs base ≠ (0, 0) → K 0 (openF ps cs base).1 (openF ps cs base).2 [] [])
    (h2 : openF ps cs base = (0, 0) → size < 1 ∨ 12 < size → K 0 3 (-4) [] [])
    (h3 : openF ps cs base = (0, 0) → 1 ≤ size → size ≤ 12 → ps.length ≤ 12 → Inv base → vf ps.length cs = (0, 0) → ∀ codes n, Upto ps cs base ps.length codes → Count ps cs base size n → K n 0 0 (S ps cs base ps.length).1 codes) :
    L.b7 base ps cs size K := by
  refine ⟨open_ok hs (fun ho => ?_) (fun ho hn hb hv => ?_)⟩
  · exact cond_t (fault1 (by exact ho)) ⟨h1 ho, h1 ho⟩
  · refine cond_f rfl ?_
    by_cases c : size < 1 ∨ 12 < size
    · exact cond_t (by simp only [bor, Bool.or_eq_true, decide_eq_true_eq]; omega) (h2 ho c)
    · refine cond_f (by simp only [bor, Bool.or_eq_false_iff, decide_eq_false_iff_not]; omega) ?_
      obtain ⟨s, rfl⟩ : ∃ s : Nat, size = s := ⟨size.toNat, by omega⟩
      have hcl : big cs.length := big_vf hv
      have hi := S_inv (ps := ps) (cs := cs) hb ps.length
      have cp : ∀ {k : Tree → Prop}, k (S ps cs base ps.length).1 → L.a9 (S ps cs base ps.length).1 k := fun hk => copy_ok hi.1 (fun f hf => (hi.2 f hf).2) hk
      have e0 : min 0 ps.length = 0 := by omega
      have := run_loop (ps := ps) (cs := cs) (base := base) hn hcl hs (s := s) (by omega) (by omega) (K := fun l l1 l2 l3 l4 m => (L.a9 l (fun r9 => ((K l4 0 0 r9 m) ∧ K l4 0 0 r9 m) ∧ ((K l4 0 0 r9 m) ∧ K l4 0 0 r9 m) ∧ (K l4 0 0 r9 m) ∧ K l4 0 0 r9 m)) ∧ ((L.a9 l (fun r10 => (K l4 0 0 r10 m) ∧ K l4 0 0 r10 m)) ∧ L.a9 l (fun r11 => K l4 0 0 r11 m)) ∧ (L.a9 l (fun r12 => (K l4 0 0 r12 m) ∧ K l4 0 0 r12 m)) ∧ L.a9 l (fun r13 => K l4 0 0 r13 m))
        (fun i codes n hi2 hu hge hF => ?_) (ps.length + 1) 0 (List.replicate ps.length 0) 0 (by omega) (by omega) ⟨by simp, fun k hk => by omega⟩ ⟨by omega, by omega, fun _ => by omega, fun _ => by rw [e0]; rfl, fun e => by rw [e0] at e; exact absurd rfl e⟩
      · exact ⟨⟨_, this⟩⟩
      · obtain ⟨f0, f1, f2, f3, f4⟩ := hF
        have em : min i ps.length = ps.length := by omega
        rw [em] at f1 f3 f4
        have hk := h3 ho (by omega) (by omega) hn hb hv codes n hu ⟨f0, f1, fun e => by have := f2 e; omega, fun e => f3 (by omega), f4⟩
        exact ⟨cp ⟨⟨hk, hk⟩, ⟨hk, hk⟩, hk, hk⟩, ⟨cp ⟨hk, hk⟩, cp hk⟩, cp ⟨hk, hk⟩, cp hk⟩
theorem Land_ok (hs : ∀ s, s ∈ cs → big s.length) {K : Int → Int → Tree → List Int → Prop}
    (h1 : openF ps cs base ≠ (0, 0) → K (openF ps cs base).1 (openF ps cs base).2 [] [])
    (h3 : openF ps cs base = (0, 0) → ps.length ≤ 12 → Inv base → vf ps.length cs = (0, 0) → ∀ codes, Upto ps cs base ps.length codes → K 0 0 (S ps cs base ps.length).1 codes) :
    L.e9 base ps cs K :=
  ⟨run_ok hs (fun h => ⟨h1 h, h1 h⟩) (fun _ h => by omega) (fun ho _ _ hn hb hv codes n hu _ => ⟨h3 ho hn hb hv codes hu, h3 ho hn hb hv codes hu⟩)⟩
end Tp
end Go.Proofs.YtnpjonhoihbaeaaGreatDoor
namespace Go.Proofs.YtnpjonhoihbaeaaGreatDoor
open Eng
namespace Mq
theorem pfind_pput (x : Nat) (f : List Int → List Int) : ∀ (m : Pool) (b : Nat), pfind (pput m x f) b = if x = b then (pfind m x).map (fun r => (f r.1, r.2)) else pfind m b
  | [], b => by simp [pput, pfind]
  | (c, r) :: m, b => by
    have ih := pfind_pput x f m b
    simp only [pput]
    by_cases h : c = x
    · subst h
      rw [if_pos rfl]
      simp only [pfind, if_true]
      by_cases hb : c = b
      · simp [hb]
      · simp [hb]
    · rw [if_neg h]
      simp only [pfind, if_neg h]
      rw [ih]
      by_cases hb : x = b
      · subst hb
        simp [h]
      · simp only [if_neg hb]
def Lies (m : Pool) (h : Hd) (xs : List Int) : Prop :=
  h.n = xs.length ∧ h.n ≤ h.c ∧ (h.c = 0 ∨ ∃ b ys cap, h.a = some ⟨b, 0, none⟩ ∧ pfind m b = some (xs ++ ys, cap) ∧ h.c ≤ cap)
def blk (h : Hd) : Option Nat := if h.c = 0 then none else h.a.map (·.block)
theorem Lies.ok {m : Pool} {h : Hd} {xs : List Int} (hl : Lies m h xs) : h.ok m := by
  obtain ⟨h1, h2, h3 | ⟨b, ys, cap, h3, h4, h5⟩⟩ := hl
  · exact ⟨h2, .inl h3⟩
  · refine ⟨h2, .inr ⟨b, 0, _, h3, h4, ?_, ?_⟩⟩
    · simp [h1]
    · simpa using h5
theorem Lies.get {m : Pool} {h : Hd} {xs : List Int} (hl : Lies m h xs) : h.get m = xs := by
  obtain ⟨h1, h2, h3 | ⟨b, ys, cap, h3, h4, h5⟩⟩ := hl
  · have h0 : h.n = 0 := by omega
    have hx : xs = [] := List.length_eq_zero_iff.1 (by omega)
    subst hx
    unfold Hd.get
    rw [h0]
    cases h.a <;> simp
  · simp only [Hd.get, h3, prow, h4, List.drop_zero, h1, List.take_left']
theorem Lies.nil (m : Pool) : Lies m Hd.nil [] := ⟨rfl, Nat.le_refl _, .inl rfl⟩
def Keeps (h : Hd) (m m' : Pool) : Prop := ∀ b, blk h ≠ some b → ∀ r, pfind m b = some r → pfind m' b = some r
theorem Keeps.refl (h : Hd) (m : Pool) : Keeps h m m := fun _ _ _ e => e
theorem Keeps.trans {h : Hd} {m m' m'' : Pool} (h1 : Keeps h m m') (h2 : Keeps h m' m'') : Keeps h m m'' := fun b hb r e => h2 b hb r (h1 b hb r e)
theorem Lies.other {m m' : Pool} {h g : Hd} {xs : List Int} (hl : Lies m g xs) (hk : Keeps h m m') (hd : ∀ b, blk h = some b → blk g ≠ some b) : Lies m' g xs := by
  obtain ⟨h1, h2, h3⟩ := hl
  refine ⟨h1, h2, ?_⟩
  by_cases h0 : g.c = 0
  · exact .inl h0
  · obtain h3 | ⟨b, ys, cap, h3, h4, h5⟩ := h3
    · exact .inl h3
    · refine .inr ⟨b, ys, cap, h3, hk b (fun e => ?_) _ h4, h5⟩
      exact hd b e (by simp [blk, h0, h3])
theorem Lies.place {m : Pool} {h : Hd} {xs : List Int} (hl : Lies m h xs) {i : Nat} (hi : i < xs.length) : pok m h.a i ∧ pget m h.a i = xs.getD i 0 := by
  obtain ⟨h1, h2, h3 | ⟨b, ys, cap, h3, h4, h5⟩⟩ := hl
  · omega
  · rw [h3]
    refine ⟨⟨b, 0, _, rfl, h4, by simp; omega⟩, ?_⟩
    simp only [pget, prow, h4, Nat.zero_add, List.getD, List.getElem?_append_left hi]
theorem Lies.wr {m : Pool} {h : Hd} {xs : List Int} (hl : Lies m h xs) {i : Nat} (hi : i < xs.length) (x : Int) : Lies (pwr m h.a i [x]) h (xs.set i x) ∧ Keeps h m (pwr m h.a i [x]) := by
  obtain ⟨h1, h2, h3 | ⟨b, ys, cap, h3, h4, h5⟩⟩ := hl
  · omega
  · rw [h3]
    simp only [pwr, Nat.zero_add]
    refine ⟨⟨by simp [h1], h2, .inr ⟨b, ys, cap, h3, ?_, h5⟩⟩, fun b' hb' r e => ?_⟩
    · rw [pfind_pput, if_pos rfl, h4]
      simp only [Option.map_some, Option.some.injEq, Prod.mk.injEq, and_true]
      rw [List.take_append_of_le_length (by omega), List.drop_append_of_le_length (by simp; omega)]
      rw [List.set_eq_take_append_cons_drop, if_pos hi]
      simp
    · rw [pfind_pput, if_neg]
      · exact e
      · rintro rfl
        exact hb' (by simp [blk, h3, show h.c ≠ 0 from by omega])
theorem Lies.cut {m : Pool} {h : Hd} {xs : List Int} (hl : Lies m h xs) {i : Nat} (hi : i ≤ xs.length) :
    (h.cut i h.n).ok m ∧ Lies (pwr m (h.cut i h.n).a 0 (List.replicate (h.cut i h.n).n 0)) (h.cut 0 i) (xs.take i) ∧ Keeps h m (pwr m (h.cut i h.n).a 0 (List.replicate (h.cut i h.n).n 0)) ∧ blk (h.cut 0 i) = blk h := by
  obtain ⟨h1, h2, h3⟩ := hl
  by_cases h0 : h.c = 0
  · have hn : h.n = 0 := by omega
    have hx : xs = [] := List.length_eq_zero_iff.1 (by omega)
    subst hx
    simp at hi
    subst hi
    have hp : pwr m (h.cut 0 h.n).a 0 (List.replicate (h.cut 0 h.n).n 0) = m ∨ True := .inr trivial
    have hrep : List.replicate (h.cut 0 h.n).n (0 : Int) = [] := by simp [Hd.cut, hn]
    have hpw : ∀ b r, pfind m b = some r → pfind (pwr m (h.cut 0 h.n).a 0 []) b = some r := by
      intro b r e
      cases hc : (h.cut 0 h.n).a with
      | none => exact e
      | some a =>
        simp only [pwr]
        rw [pfind_pput]
        split
        · next he => subst he; rw [e]; simp
        · exact e
    rw [hrep]
    refine ⟨⟨by simp [Hd.cut, hn], .inl (by simp [Hd.cut, h0])⟩, ⟨rfl, by simp [Hd.cut], .inl (by simp [Hd.cut, h0])⟩, fun b _ r e => hpw b r e, by simp [blk, Hd.cut, h0]⟩
  · obtain h3 | ⟨b, ys, cap, h3, h4, h5⟩ := h3
    · exact absurd h3 h0
    · have hcut0 : (h.cut 0 i).a = some ⟨b, 0, none⟩ := by
        simp only [Hd.cut, h3]
        split <;> rfl
      have hlen : h.n - i + i = xs.length := by omega
      have hfind : pfind (pwr m (h.cut i h.n).a 0 (List.replicate (h.cut i h.n).n 0)) b = some (xs.take i ++ (List.replicate (h.n - i) 0 ++ ys), cap) ∧
          ∀ b', b' ≠ b → pfind (pwr m (h.cut i h.n).a 0 (List.replicate (h.cut i h.n).n 0)) b' = pfind m b' := by
        by_cases hc : h.c = i
        · have hin : i = xs.length := by omega
          have ha : (h.cut i h.n).a = some ⟨b, 0, none⟩ := by simp [Hd.cut, hc, h3]
          have hr : (h.cut i h.n).n = 0 := by simp only [Hd.cut]; omega
          rw [ha, hr]
          simp only [pwr]
          refine ⟨?_, fun b' hb' => ?_⟩
          · rw [pfind_pput, if_pos rfl, h4]
            simp [hin, h1]
          · rw [pfind_pput, if_neg (fun e => hb' e.symm)]
        · have ha : (h.cut i h.n).a = some ⟨b, i, none⟩ := by
            (simp only [Hd.cut, if_neg hc, h3, Option.map_some, Addr.add, Nat.zero_add]; split <;> first | rfl | (next e => subst e; rfl))
          have hr : (h.cut i h.n).n = h.n - i := rfl
          rw [ha, hr]
          simp only [pwr]
          refine ⟨?_, fun b' hb' => ?_⟩
          · rw [pfind_pput, if_pos rfl, h4]
            simp only [Option.map_some, Option.some.injEq, Prod.mk.injEq, and_true, Nat.add_zero, List.length_replicate]
            rw [List.take_append_of_le_length hi, show i + (h.n - i) = xs.length from by omega, List.drop_left']
            · simp
            · rfl
          · rw [pfind_pput, if_neg (fun e => hb' e.symm)]
      refine ⟨⟨by simp only [Hd.cut]; omega, ?_⟩, ⟨?_, by simp only [Hd.cut]; omega, .inr ⟨b, _, cap, hcut0, hfind.1, ?_⟩⟩, fun b' hb' r e => ?_, ?_⟩
      · by_cases hc : h.c = i
        · exact .inl (by simp [Hd.cut, hc])
        · refine .inr ⟨b, i, _, by (simp only [Hd.cut, if_neg hc, h3, Option.map_some, Addr.add, Nat.zero_add]; split <;> first | rfl | (next e => subst e; rfl)), h4, ?_, ?_⟩
          · simp only [Hd.cut, List.length_append]; omega
          · simp only [Hd.cut]; omega
      · simp only [Hd.cut, List.length_take]; omega
      · simp only [Hd.cut]; omega
      · rw [hfind.2 b']
        · exact e
        · rintro rfl
          exact hb' (by simp [blk, h3, h0])
      · simp only [blk, hcut0, h3]
        simp [Hd.cut, h0]
abbrev Ent := Int × (Int × (Bool × (Bool × (Bool × List Int))))
abbrev HE := Int × (Int × (Bool × (Bool × (Bool × Hd))))
abbrev e0 : Ent := (0, (0, (false, (false, (false, [])))))
def wr (x : HE) (l : List Int) : Ent := (x.1, (x.2.1, (x.2.2.1, (x.2.2.2.1, (x.2.2.2.2.1, l)))))
def At (m : Pool) (x : HE) (e : Ent) : Prop := e = wr x e.2.2.2.2.2 ∧ Lies m x.2.2.2.2.2 e.2.2.2.2.2
structure Lay (m : Pool) (hs : List HE) (es : List Ent) : Prop where
  len : hs.length = es.length
  row : ∀ (i : Nat) (x : HE) (e : Ent), hs[i]? = some x → es[i]? = some e → At m x e
  apart : ∀ (i j : Nat) (x y : HE), i ≠ j → hs[i]? = some x → hs[j]? = some y → ∀ b, blk x.2.2.2.2.2 = some b → blk y.2.2.2.2.2 ≠ some b
theorem Lay.get {m : Pool} {hs : List HE} {es : List Ent} (hS : Lay m hs es) {i : Nat} (hi : i < es.length) : ∃ x e, hs[i]? = some x ∧ es[i]? = some e ∧ At m x e := by
  have h1 : i < hs.length := by rw [hS.len]; exact hi
  exact ⟨hs[i], es[i], List.getElem?_eq_getElem h1, List.getElem?_eq_getElem hi, hS.row i _ _ (List.getElem?_eq_getElem h1) (List.getElem?_eq_getElem hi)⟩
theorem Lay.nil (m : Pool) : Lay m [] [] := ⟨rfl, fun i x e h => by simp at h, fun i j x y _ h => by simp at h⟩
theorem Lay.re {m : Pool} {hs hs' : List HE} {es es' : List Ent} (hS : Lay m hs es) (σ : Nat → Nat) (hl : hs'.length = es'.length)
    (h : ∀ (k : Nat) (x : HE), hs'[k]? = some x → ∃ e, es'[k]? = some e ∧ At m x e ∧ (blk x.2.2.2.2.2 = none ∨ ∃ y, hs[σ k]? = some y ∧ y.2.2.2.2.2 = x.2.2.2.2.2))
    (hi : ∀ k l, k ≠ l → (∃ x, hs'[k]? = some x ∧ blk x.2.2.2.2.2 ≠ none) → (∃ x, hs'[l]? = some x ∧ blk x.2.2.2.2.2 ≠ none) → σ k ≠ σ l) : Lay m hs' es' := by
  refine ⟨hl, fun i x e h1 h2 => ?_, fun i j x y hij h1 h2 b hb hb2 => ?_⟩
  · obtain ⟨e', h3, h4, _⟩ := h i x h1
    rw [h2] at h3
    cases h3
    exact h4
  · obtain ⟨_, _, _, g | ⟨x', g1, g2⟩⟩ := h i x h1
    · rw [g] at hb; cases hb
    obtain ⟨_, _, _, k | ⟨y', k1, k2⟩⟩ := h j y h2
    · rw [k] at hb2; cases hb2
    exact hS.apart _ _ x' y' (hi i j hij ⟨x, h1, by rw [hb]; simp⟩ ⟨y, h2, by rw [hb2]; simp⟩) g1 k1 b (by rw [g2]; exact hb) (by rw [k2]; exact hb2)
theorem get_cut {α : Type} (l : List α) (i j k : Nat) (hi : i ≤ l.length) : (l.take i ++ l.drop j)[k]? = if k < i then l[k]? else l[j + (k - i)]? := by
  rw [List.getElem?_append, List.length_take, Nat.min_eq_left hi]
  split
  · rw [List.getElem?_take, if_pos ‹_›]
  · rw [List.getElem?_drop]
theorem Lay.cut {m : Pool} {hs : List HE} {es : List Ent} (hS : Lay m hs es) {i j : Nat} (hij : i ≤ j) (hj : j ≤ es.length) : Lay m (hs.take i ++ hs.drop j) (es.take i ++ es.drop j) := by
  have hl := hS.len
  refine hS.re (fun k => if k < i then k else j + (k - i)) (by simp [hl]) (fun k x hx => ?_) (fun k l hkl _ _ => ?_)
  · rw [get_cut _ _ _ _ (by omega)] at hx ⊢
    have hlt : (if k < i then k else j + (k - i)) < es.length := by
      rw [← hl]
      split at hx
      · rw [if_pos ‹_›]; exact (List.getElem?_eq_some_iff.1 hx).1
      · rw [if_neg ‹_›]; exact (List.getElem?_eq_some_iff.1 hx).1
    obtain ⟨x', e, h1, h2, h3⟩ := hS.get hlt
    by_cases hk : k < i
    · rw [if_pos hk] at hx ⊢
      simp only [if_pos hk] at h1 h2 ⊢
      rw [hx] at h1; cases h1
      exact ⟨e, h2, h3, .inr ⟨x, hx, rfl⟩⟩
    · rw [if_neg hk] at hx ⊢
      simp only [if_neg hk] at h1 h2 ⊢
      rw [hx] at h1; cases h1
      exact ⟨e, h2, h3, .inr ⟨x, hx, rfl⟩⟩
  · split <;> split <;> omega
theorem get_ins {α : Type} (l : List α) (i k : Nat) (y : α) (hi : i ≤ l.length) : (l.take i ++ [y] ++ l.drop i)[k]? = if k < i then l[k]? else if k = i then some y else l[k - 1]? := by
  have h1 : (l.take i).length = i := by rw [List.length_take]; omega
  rw [List.append_assoc, List.getElem?_append, h1]
  split
  · rw [List.getElem?_take, if_pos ‹_›]
  · rw [List.getElem?_append]
    simp only [List.length_singleton]
    by_cases hk : k = i
    · subst hk; simp
    · rw [if_neg (by omega), if_neg hk, List.getElem?_drop]
      congr 1
      omega
theorem Lay.ins {m : Pool} {hs : List HE} {es : List Ent} (hS : Lay m hs es) {i : Nat} (hi : i ≤ es.length) {x : HE} (hx : x.2.2.2.2.2 = Hd.nil) : Lay m (hs.take i ++ [x] ++ hs.drop i) (es.take i ++ [wr x []] ++ es.drop i) := by
  have hl := hS.len
  have hn : blk x.2.2.2.2.2 = none := by rw [hx]; rfl
  refine hS.re (fun k => if k < i then k else k - 1) (by simp [hl]) (fun k y hy => ?_) (fun k l hkl h1 h2 => ?_)
  · rw [get_ins _ _ _ _ (by omega)] at hy ⊢
    by_cases hk : k < i
    · rw [if_pos hk] at hy ⊢
      simp only [if_pos hk]
      obtain ⟨x', e, g1, g2, g3⟩ := hS.get (i := k) (by omega)
      rw [hy] at g1; cases g1
      exact ⟨e, g2, g3, .inr ⟨y, hy, rfl⟩⟩
    · rw [if_neg hk] at hy ⊢
      by_cases hk2 : k = i
      · rw [if_pos hk2] at hy ⊢
        cases hy
        exact ⟨_, rfl, ⟨rfl, by show Lies m x.2.2.2.2.2 []; rw [hx]; exact Lies.nil m⟩, .inl hn⟩
      · rw [if_neg hk2] at hy ⊢
        simp only [if_neg hk]
        obtain ⟨x', e, g1, g2, g3⟩ := hS.get (i := k - 1) (by rw [← hl]; exact (List.getElem?_eq_some_iff.1 hy).1)
        rw [hy] at g1; cases g1
        exact ⟨e, g2, g3, .inr ⟨y, hy, rfl⟩⟩
  · have key : ∀ k, (∃ y, (hs.take i ++ [x] ++ hs.drop i)[k]? = some y ∧ blk y.2.2.2.2.2 ≠ none) → k ≠ i := by
      rintro k ⟨y, g1, g2⟩ rfl
      rw [get_ins _ _ _ _ (by omega), if_neg (by omega), if_pos rfl] at g1
      cases g1
      exact g2 hn
    have h3 := key k h1
    have h4 := key l h2
    split <;> split <;> omega
theorem Lay.upd {m m' : Pool} {hs : List HE} {es : List Ent} (hS : Lay m hs es) {i : Nat} {x x' : HE} {e' : Ent} (hx : hs[i]? = some x) (h1 : At m' x' e')
    (hb : blk x'.2.2.2.2.2 = blk x.2.2.2.2.2 ∨ ∀ b, blk x'.2.2.2.2.2 = some b → pfind m b = none) (hk : Keeps x.2.2.2.2.2 m m') : Lay m' (hs.set i x') (es.set i e') := by
  have hl := hS.len
  have hi' : i < hs.length := (List.getElem?_eq_some_iff.1 hx).1
  have far : ∀ j y, i ≠ j → hs[j]? = some y → ∀ b, blk x'.2.2.2.2.2 = some b → blk y.2.2.2.2.2 ≠ some b := by
    intro j y hij hy b hb'
    rcases hb with e | e
    · exact hS.apart i j x y hij hx hy b (e ▸ hb')
    · intro e2
      have hn := e b hb'
      have hjl : j < es.length := by rw [← hl]; exact (List.getElem?_eq_some_iff.1 hy).1
      obtain ⟨y', ey, g1, g2, _, g3⟩ := hS.get hjl
      rw [hy] at g1; cases g1
      obtain ⟨_, _, h3 | ⟨b2, ys, cap, h3, h4, _⟩⟩ := g3
      · simp only [blk, if_pos h3] at e2
        cases e2
      · simp only [blk, h3] at e2
        split at e2
        · cases e2
        · simp only [Option.map_some, Option.some.injEq] at e2
          subst e2
          rw [hn] at h4
          cases h4
  refine ⟨by simp [hl], fun j y e hy he => ?_, fun j k y z hjk hy hz b => ?_⟩
  · rw [List.getElem?_set] at hy he
    by_cases hij : i = j
    · subst hij
      rw [if_pos rfl, if_pos hi'] at hy
      rw [if_pos rfl, if_pos (by omega)] at he
      cases hy; cases he
      exact h1
    · rw [if_neg hij] at hy he
      obtain ⟨g1, g2⟩ := hS.row j y e hy he
      exact ⟨g1, g2.other hk (hS.apart i j x y hij hx hy)⟩
  · rw [List.getElem?_set] at hy hz
    by_cases hij : i = j
    · subst hij
      rw [if_pos rfl, if_pos hi'] at hy
      cases hy
      rw [if_neg hjk] at hz
      exact far k z hjk hz b
    · rw [if_neg hij] at hy
      by_cases hik : i = k
      · subst hik
        rw [if_pos rfl, if_pos hi'] at hz
        cases hz
        exact fun g g2 => far j y hij hy b g2 g
      · rw [if_neg hik] at hz
        exact hS.apart j k y z hjk hy hz b
abbrev TT : Ty := .pair (.int .i64) (.pair (.int .i64) (.pair .bool (.pair .bool (.pair .bool .hnd))))
theorem Lay.okRows {m : Pool} {hs : List HE} {es : List Ent} (hS : Lay m hs es) : okRows m TT hs := fun x hx => by
  obtain ⟨i, hi, rfl⟩ := List.getElem_of_mem hx
  obtain ⟨y, e, h1, h2, _, h3⟩ := hS.get (i := i) (by rw [← hS.len]; exact hi)
  have h1' : some hs[i] = some y := (List.getElem?_eq_getElem hi).symm.trans h1
  cases h1'
  exact ⟨trivial, trivial, trivial, trivial, trivial, h3.ok⟩
theorem Lay.fz {m : Pool} {hs : List HE} {es : List Ent} (hS : Lay m hs es) : (List.map (fz m TT) hs : List (Int × (Int × (Bool × (Bool × (Bool × List Int)))))) = es := by
  have h : (hs.map fun x : HE => wr x (x.2.2.2.2.2.get m)) = es := by
    apply List.ext_getElem
    · simp [hS.len]
    · intro i h1 h2
      have h3 : i < hs.length := by simpa using h1
      obtain ⟨y, e, g1, g2, g3, g4⟩ := hS.get h2
      rw [List.getElem?_eq_getElem h3] at g1
      rw [List.getElem?_eq_getElem h2] at g2
      cases g1; cases g2
      simp only [List.getElem_map]
      rw [g4.get, ← g3]
  exact h
theorem getD_of {α : Type} {l : List α} {i : Nat} {x : α} (d : α) (h : l[i]? = some x) : l.getD i d = x := by simp [List.getD, h]
end Mq
end Go.Proofs.YtnpjonhoihbaeaaGreatDoor
namespace Go.Proofs.YtnpjonhoihbaeaaGreatDoor
open Eng
namespace Mq
theorem getD_get {α} (l : List α) (i : Nat) (d : α) (h : i < l.length) : l.getD i d = l[i] := by simp [List.getD, h]
theorem idx_loop {xs : List Int} {v p : Int} {q r s : Bool} (hb : xs.length < 4611686018427387904) {K : Int → Prop} (h1 : (∀ x, x ∈ xs → x ≠ v) → K (-1))
    (h2 : ∀ j : Nat, j < xs.length → (∀ x, x ∈ xs.take j → x ≠ v) → xs.getD j 0 = v → K j) : ∀ (fu i : Nat), i ≤ xs.length → xs.length - i < fu → (∀ x, x ∈ xs.take i → x ≠ v) →
    L.c7_L1_R xs v p q r s xs.length fu i (K (-1)) K
  | 0, i, _, h, _ => by omega
  | fu + 1, i, hi, h, hn => by
    show L.c7_L1_b xs v p q r s xs.length i _ (K (-1)) K
    unfold L.c7_L1_b
    rcases Nat.lt_or_ge i xs.length with g | g
    · refine cond_t (by simp; omega) ⟨⟨by omega, by omega⟩, ⟨?_⟩⟩
      show bif (_ == v) then _ else _
      rw [Int.toNat_natCast]
      by_cases hv : xs.getD i 0 = v
      · exact cond_t (beq_iff_eq.2 hv) (h2 i g hn hv)
      · refine cond_f (beq_eq_false_iff_ne.2 hv) ?_
        rw [i64_id (by omega) (by omega)]
        have := idx_loop (p := p) (q := q) (r := r) (s := s) hb h1 h2 fu (i + 1) g (by omega) (fun x hx => by
          rw [List.take_add_one, List.mem_append] at hx
          rcases hx with hx | hx
          · exact hn x hx
          · rw [List.getElem?_eq_getElem g] at hx
            simp only [Option.toList_some, List.mem_singleton] at hx
            subst hx
            rw [getD_get _ _ _ g] at hv
            exact hv)
        exact_mod_cast this
    · obtain rfl : i = xs.length := by omega
      refine cond_f (by simp) (h1 fun x hx => hn x ?_)
      rw [List.take_length]
      exact hx
theorem idx_ok {xs : List Int} {v p : Int} {q r s : Bool} (hb : xs.length < 4611686018427387904) {K : Int → Prop} (h1 : (∀ x, x ∈ xs → x ≠ v) → K (-1))
    (h2 : ∀ j : Nat, j < xs.length → (∀ x, x ∈ xs.take j → x ≠ v) → xs.getD j 0 = v → K j) : L.c7 xs v p q r s K :=
  ⟨⟨⟨xs.length + 1, by exact_mod_cast idx_loop (p := p) (q := q) (r := r) (s := s) hb h1 h2 (xs.length + 1) 0 (by omega) (by omega) (by simp)⟩⟩⟩
def del (v : Int) (xs : List Int) : List Int := xs.filter fun x => !(x == v)
theorem del_le (v : Int) (xs : List Int) : (del v xs).length ≤ xs.length := List.length_filter_le _ _
theorem del_take (v : Int) (xs : List Int) (j : Nat) (hj : j < xs.length) : del v (xs.take (j + 1)) = del v (xs.take j) ++ (bif xs.getD j 0 == v then [] else [xs.getD j 0]) := by
  unfold del
  rw [List.take_add_one, List.filter_append, List.getElem?_eq_getElem hj, getD_get _ _ _ hj]
  cases h : (xs[j] == v) <;> simp [h]
theorem del_loop {h : Hd} {xs : List Int} {v p : Int} {q r s : Bool} {m0 : Pool} (hb : xs.length < 4611686018427387904) {K : Int → Pool → Prop}
    (hK : ∀ m ws, Lies m h ws → ws.length = xs.length → ws.take (del v xs).length = del v xs → Keeps h m0 m → K (del v xs).length m) :
    ∀ (fu i j : Nat) (m : Pool) (ws : List Int), Lies m h ws → ws.length = xs.length → j ≤ xs.length → i ≤ j → xs.length - j < fu → i = (del v (xs.take j)).length → ws.take i = del v (xs.take j) → ws.drop j = xs.drop j → Keeps h m0 m →
    L.b5_L1_R h v p q r s fu i j m K
  | 0, i, j, m, ws, _, _, _, _, hf, _, _, _, _ => by omega
  | fu + 1, i, j, m, ws, hl, hw, hj, hij, hf, hi, ht, hd, hk => by
    show L.b5_L1_b h v p q r s i j m _ K
    unfold L.b5_L1_b
    have hn : h.n = xs.length := by rw [hl.1, hw]
    rcases Nat.lt_or_ge j xs.length with g | g
    · obtain ⟨p1, p2⟩ := hl.place (i := j) (by omega)
      refine cond_t (by simp; omega) ⟨⟨⟨by omega, by omega⟩, hl.ok⟩, ?_, ⟨?_⟩⟩
      · rw [Int.toNat_natCast]; exact p1
      · rw [Int.toNat_natCast, p2]
        have hx : ws.getD j 0 = xs.getD j 0 := by
          have := congrArg (fun l => l[0]?) hd
          simp only [List.getElem?_drop, Nat.add_zero] at this
          simp [List.getD, this]
        rw [hx]
        have hdt := del_take v xs j g
        rw [i64_id (n := (j : Int) + 1) (by omega) (by omega), i64_id (n := (i : Int) + 1) (by omega) (by omega)]
        show bif !(xs.getD j 0 == v) then _ else _
        cases hv : xs.getD j 0 == v with
        | true =>
          rw [hv] at hdt
          simp only [cond_true, List.append_nil] at hdt
          have := del_loop (p := p) (q := q) (r := r) (s := s) hb hK fu i (j + 1) m ws hl hw g (by omega) (by omega) (by rw [hdt]; exact hi) (by rw [hdt]; exact ht) (by
            rw [← List.drop_drop (i := 1) (j := j), ← List.drop_drop (i := 1) (j := j), hd]) hk
          exact_mod_cast this
        | false =>
          rw [hv] at hdt
          simp only [cond_false] at hdt
          obtain ⟨q1, _⟩ := hl.place (i := i) (by omega)
          obtain ⟨q3, q4⟩ := hl.wr (i := i) (by omega) (xs.getD j 0)
          refine ⟨⟨⟨by omega, by omega⟩, hl.ok⟩, by rw [Int.toNat_natCast]; exact q1, ?_⟩
          rw [Int.toNat_natCast]
          have hlen : i < ws.length := by omega
          have := del_loop (p := p) (q := q) (r := r) (s := s) hb hK fu (i + 1) (j + 1) _ (ws.set i (xs.getD j 0)) q3 (by simp [hw]) g (by omega) (by omega) (by rw [hdt, List.length_append, ← hi]; rfl) (by
            rw [hdt, List.take_add_one, List.take_set_of_le (Nat.le_refl _), ht]
            simp [hlen]) (by
            rw [List.drop_set_of_lt (by omega)]
            rw [← List.drop_drop (i := 1) (j := j), ← List.drop_drop (i := 1) (j := j), hd]) (hk.trans q4)
          exact_mod_cast this
    · obtain rfl : j = xs.length := by omega
      refine cond_f (by simp; omega) ?_
      rw [List.take_length] at hi ht
      subst hi
      exact hK m ws hl hw ht hk
theorem del_none {v : Int} {xs : List Int} (h : ∀ x, x ∈ xs → x ≠ v) : del v xs = xs := List.filter_eq_self.2 fun x hx => by simp [h x hx]
theorem Delete_ok {h : Hd} {xs : List Int} {v p : Int} {q r s : Bool} {g : Hd} {m : Pool} (hb : xs.length < 4611686018427387904) (hl : Lies m h xs) {K : Hd → Pool → Int → Int → Bool → Bool → Bool → Hd → Prop}
    (hK : ∀ h' m', Lies m' h' (del v xs) → blk h' = blk h → Keeps h m m' → K h' m' v p q r s g) : L.b5 h m v p q r s g K := by
  refine ⟨⟨hl.ok, ?_⟩⟩
  rw [hl.get]
  refine idx_ok hb (fun hn => ?_) fun j hj hn hv => ?_
  · refine cond_t rfl ?_
    refine hK h m ?_ rfl (Keeps.refl _ _)
    rw [del_none hn]
    exact hl
  · refine cond_f (beq_eq_false_iff_ne.2 (by omega)) ⟨⟨xs.length + 1, ?_⟩⟩
    rw [i64_id (by omega) (by omega)]
    have hdt := del_take v xs j hj
    rw [hv] at hdt
    simp only [beq_self_eq_true, cond_true, List.append_nil] at hdt
    rw [del_none hn] at hdt
    have hjl : (xs.take j).length = j := by simp; omega
    have := del_loop (h := h) (xs := xs) (v := v) (p := p) (q := q) (r := r) (s := s) (m0 := m) hb (K := fun i_ m' => ((0 ≤ i_ ∧ i_ ≤ ((h.n : Nat) : Int)) ∧ h.n ≤ h.c) ∧ (Hd.ok m' (Hd.cut h i_.toNat h.n)) ∧ ((0 ≤ i_ ∧ i_ ≤ ((h.n : Nat) : Int)) ∧ h.n ≤ h.c) ∧ K (Hd.cut h 0 i_.toNat) (pwr m' ((Hd.cut h i_.toNat h.n).a) 0 (List.replicate ((Hd.cut h i_.toNat h.n).n) 0)) v p q r s g)
      (fun m' ws hl' hw ht hk => by
        have hle := del_le v xs
        have hn' : h.n = xs.length := hl.1
        obtain ⟨c1, c2, c3, c4⟩ := hl'.cut (i := (del v xs).length) (by omega)
        rw [Int.toNat_natCast]
        refine ⟨⟨⟨by omega, by omega⟩, hl.2.1⟩, c1, ⟨⟨by omega, by omega⟩, hl.2.1⟩, ?_⟩
        rw [ht] at c2
        exact hK _ _ c2 c4 (hk.trans c3)) (xs.length + 1) j (j + 1) m xs hl rfl hj (by omega) (by omega) (by rw [hdt, hjl]) (by rw [hdt]) rfl (Keeps.refl _ _)
    exact_mod_cast this
end Mq
end Go.Proofs.YtnpjonhoihbaeaaGreatDoor
namespace Go.Proofs.YtnpjonhoihbaeaaGreatDoor
open Eng
namespace Mq
theorem i64_succ {i : Nat} (h : i ≤ 9223372036854775806) : i64 ((i : Int) + 1) = ((i + 1 : Nat) : Int) := by
  rw [i64_id (by omega) (by omega)]
  omega
def clrE (e : Ent) : Ent := (e.1, (e.2.1, (false, (false, (false, [])))))
def part (a n : Nat) (es : List Ent) : List Ent := es.mapIdx fun k e => if a ≤ k ∧ k < a + n then clrE e else e
def disc (a : Nat) (es : List Ent) : List Ent := es.mapIdx fun k e => if a ≤ k then clrE e else e
theorem disc_len (a : Nat) (es : List Ent) : (disc a es).length = es.length := by simp [disc]
theorem part_zero (a : Nat) (es : List Ent) : part a 0 es = es := by
  apply List.ext_getElem?
  intro k
  simp only [part, List.getElem?_mapIdx]
  cases es[k]? with
  | none => rfl
  | some e => simp; intro h1 h2; omega
theorem part_all {a n : Nat} {es : List Ent} (h : es.length ≤ a + n) : part a n es = disc a es := by
  apply List.ext_getElem?
  intro k
  simp only [part, disc, List.getElem?_mapIdx]
  cases he : es[k]? with
  | none => rfl
  | some e =>
    have := (List.getElem?_eq_some_iff.1 he).1
    simp only [Option.map_some, Option.some.injEq]
    by_cases hk : a ≤ k
    · rw [if_pos ⟨hk, by omega⟩, if_pos hk]
    · rw [if_neg (by omega), if_neg hk]
theorem part_succ {a n : Nat} {es : List Ent} {e : Ent} (he : es[a + n]? = some e) : (part a n es).set (a + n) (clrE e) = part a (n + 1) es := by
  have hlt := (List.getElem?_eq_some_iff.1 he).1
  apply List.ext_getElem?
  intro k
  rw [List.getElem?_set]
  simp only [part, List.getElem?_mapIdx, List.length_mapIdx]
  by_cases hk : a + n = k
  · subst hk
    rw [if_pos rfl, if_pos hlt, he]
    simp only [Option.map_some, Option.some.injEq]
    rw [if_pos (by omega)]
  · rw [if_neg hk]
    cases es[k]? with
    | none => rfl
    | some x =>
      simp only [Option.map_some, Option.some.injEq]
      by_cases h1 : a ≤ k ∧ k < a + n
      · rw [if_pos h1, if_pos (by omega)]
      · rw [if_neg h1, if_neg (by omega)]
theorem disc_loop {a : Nat} {es : List Ent} {m : Pool} (hb : es.length < 4611686018427387904) (ha : a ≤ es.length) {K : List HE → Prop} (hK : ∀ hs', Lay m hs' (disc a es) → K hs') :
    ∀ (fu i : Nat) (hs : List HE), Lay m hs (part a i es) → a + i ≤ es.length → es.length - a - i < fu → L.b2_L1_R a ((es.length - a : Nat) : Int) fu i hs K
  | 0, i, hs, _, _, h => by omega
  | fu + 1, i, hs, hS, hi, h => by
    show L.b2_L1_b a ((es.length - a : Nat) : Int) i hs _ K
    unfold L.b2_L1_b
    rcases Nat.lt_or_ge i (es.length - a) with g | g
    · have hpl : (part a i es).length = es.length := by simp [part]
      have hl : hs.length = es.length := by rw [hS.len, hpl]
      have e1 : i64 ((a : Int) + (i : Int)) = ((a + i : Nat) : Int) := by rw [i64_id (by omega) (by omega)]; omega
      refine cond_t (by simp; omega) ?_
      rw [e1, Int.toNat_natCast, i64_succ (i := i) (by omega)]
      refine ⟨⟨by omega, by omega⟩, ?_⟩
      obtain ⟨x, e, h1, h2, h3⟩ := hS.get (i := a + i) (by rw [hpl]; omega)
      rw [getD_of _ h1]
      have he : es[a + i]? = some e := by
        simp only [part, List.getElem?_mapIdx, Option.map_eq_some_iff] at h2
        obtain ⟨e', h4, h5⟩ := h2
        rw [if_neg (by omega)] at h5
        rw [h4, h5]
      have h6 := hS.upd (m' := m) (x' := (x.1, (x.2.1, (false, (false, (false, Hd.nil)))))) (e' := clrE e) h1 ⟨by
        rw [h3.1]; rfl, Lies.nil m⟩ (.inr fun b hb => by cases hb) (Keeps.refl _ _)
      rw [part_succ he] at h6
      exact disc_loop hb ha hK fu (i + 1) _ h6 (by omega) (by omega)
    · refine cond_f (by simp; omega) (hK _ ?_)
      rw [part_all (by omega)] at hS
      exact hS
theorem discard_ok {a : Nat} {es : List Ent} {m : Pool} {hs : List HE} {q : Int} {ld rj : List Int} (hS : Lay m hs es) (hb : es.length < 4611686018427387904) (ha : a ≤ es.length) {K : Pool → Int → List HE → List Int → List Int → Prop}
    (hK : ∀ hs', Lay m hs' (disc a es) → K m q hs' ld rj) : L.b2 a m q hs ld rj K := by
  refine ⟨⟨⟨by omega, by rw [hS.len]; omega⟩, ⟨⟨es.length + 1, ?_⟩⟩⟩⟩
  rw [Int.toNat_natCast, hS.len]
  exact disc_loop hb ha hK (es.length + 1) 0 hs (by rw [part_zero]; exact hS) (by omega) (by omega)
theorem remove_ok {i : Nat} {es : List Ent} {m : Pool} {hs : List HE} {q : Int} {ld rj : List Int} (hS : Lay m hs es) (hb : es.length ≤ 1000) (hi : i < es.length) {K : Pool → Int → List Int → List Int → List HE → Prop}
    (hK : ∀ hs', Lay m hs' (es.take i ++ es.drop (i + 1)) → K m q ld rj hs') : L.e7 i m q hs ld rj K := by
  have hl := hS.len
  refine ⟨?_⟩
  unfold L.e7_B
  rw [i64_succ (by omega)]
  refine ⟨⟨by omega, by omega, by omega, by unfold fits; omega⟩, ?_⟩
  rw [Int.toNat_natCast, Int.toNat_natCast]
  exact hK _ (hS.cut (by omega) (by omega))
def plc (p : Int) : List Ent → Nat → Nat → Nat
  | [], _, k => k
  | e :: r, i, k => plc p r (i + 1) (if e.2.1 ≥ p then i + 1 else k)
theorem plc_le (p : Int) : ∀ (es : List Ent) (i k : Nat), k ≤ i → plc p es i k ≤ i + es.length
  | [], i, k, h => by simp [plc]; exact h
  | e :: r, i, k, h => by
    have := plc_le p r (i + 1) (if e.2.1 ≥ p then i + 1 else k) (by split <;> omega)
    simp only [plc, List.length_cons]
    omega
def new (c p : Int) : Ent := (c, (p, (false, (false, (false, [])))))
def addE (c p : Int) (es : List Ent) : List Ent := disc (plc p es 0 0 + 1) (es.take (plc p es 0 0) ++ [new c p] ++ es.drop (plc p es 0 0))
theorem add_loop {p : Int} {es : List Ent} {m : Pool} {hs : List HE} (hS : Lay m hs es) (hb : es.length ≤ 1000) {K : Int → Prop} (hK : K ((plc p es 0 0 : Nat) : Int)) :
    ∀ (fu i k : Nat), i ≤ es.length → k ≤ i → es.length - i < fu → plc p (es.drop i) i k = plc p es 0 0 → L.b4_L1_R p (es.length : Int) hs fu k i K
  | 0, i, k, _, _, h, _ => by omega
  | fu + 1, i, k, hi, hk, h, he => by
    show L.b4_L1_b p (es.length : Int) hs k i _ K
    unfold L.b4_L1_b
    have hl := hS.len
    rcases Nat.lt_or_ge i es.length with g | g
    · refine cond_t (by simp; omega) ⟨⟨by omega, by omega⟩, ?_⟩
      rw [Int.toNat_natCast, i64_succ (i := i) (by omega)]
      obtain ⟨x, e, h1, h2, h3, _⟩ := hS.get g
      rw [getD_of _ h1]
      have hd : es.drop i = e :: es.drop (i + 1) := by
        rw [List.drop_eq_getElem_cons g]
        rw [List.getElem?_eq_getElem g] at h2
        cases h2; rfl
      rw [hd] at he
      simp only [plc] at he
      have hx : e.2.1 = x.2.1 := by rw [h3]; rfl
      rw [hx] at he
      by_cases hp : x.2.1 ≥ p
      · rw [if_pos hp] at he
        exact cond_t (by simpa using hp) (add_loop hS hb hK fu (i + 1) (i + 1) (by omega) (by omega) (by omega) he)
      · rw [if_neg hp] at he
        exact cond_f (by simpa using hp) (add_loop hS hb hK fu (i + 1) k (by omega) (by omega) (by omega) he)
    · obtain rfl : i = es.length := by omega
      rw [List.drop_length] at he
      simp only [plc] at he
      refine cond_f (by simp) ?_
      rw [he]
      exact hK
theorem add_ok {c p : Int} {es : List Ent} {m : Pool} {hs : List HE} {q : Int} {ld rj : List Int} (hS : Lay m hs es) (hb : es.length ≤ 1000) {K : Pool → Int → List Int → List Int → List HE → Prop}
    (hK : ∀ hs', Lay m hs' (addE c p es) → K m q ld rj hs') : L.b4 c p m q hs ld rj K := by
  have hl := hS.len
  have hp := plc_le p es 0 0 (Nat.le_refl _)
  refine ⟨⟨⟨es.length + 1, ?_⟩⟩⟩
  rw [hl]
  refine add_loop hS hb ?_ (es.length + 1) 0 0 (by omega) (by omega) (by omega) rfl
  rw [Int.toNat_natCast, i64_succ (by omega)]
  refine ⟨⟨by omega, by omega, by simp, by unfold fits; simp; omega⟩, ?_⟩
  have h1 := hS.ins (i := plc p es 0 0) (by omega) (x := (c, (p, (false, (false, (false, Hd.nil)))))) rfl
  exact discard_ok h1 (by simp; omega) (by simp; omega) fun hs' h2 => hK hs' h2
end Mq
end Go.Proofs.YtnpjonhoihbaeaaGreatDoor
namespace Go.Proofs.YtnpjonhoihbaeaaGreatDoor
open Eng
namespace Mq
def posA (c : Int) : List Ent → Nat → Int
  | [], _ => -1
  | e :: r, i => if e.1 = c then i else posA c r (i + 1)
def posI (c : Int) : List Int → Nat → Int
  | [], _ => -1
  | x :: r, i => if c = x then i else posI c r (i + 1)
def pos (c : Int) (es : List Ent) : Int := posA c es 0
theorem posA_or (c : Int) : ∀ (es : List Ent) (i : Nat), posA c es i = -1 ∧ (∀ e, e ∈ es → e.1 ≠ c) ∨ ∃ k e, posA c es i = ((i + k : Nat) : Int) ∧ es[k]? = some e ∧ e.1 = c
  | [], i => .inl ⟨rfl, by simp⟩
  | e :: r, i => by
    simp only [posA]
    by_cases h : e.1 = c
    · rw [if_pos h]; exact .inr ⟨0, e, rfl, rfl, h⟩
    · rw [if_neg h]
      rcases posA_or c r (i + 1) with ⟨h1, h2⟩ | ⟨k, x, h1, h2, h3⟩
      · refine .inl ⟨h1, fun y hy => ?_⟩
        rcases List.mem_cons.1 hy with rfl | hy
        · exact h
        · exact h2 y hy
      · exact .inr ⟨k + 1, x, by rw [h1]; omega, h2, h3⟩
theorem find_loop {c : Int} {es : List Ent} (hb : es.length < 4611686018427387904) {Kx : Prop} {Kr : Int → Prop} (hx : pos c es = -1 → Kx) (hr : ∀ k : Nat, pos c es = k → Kr k) :
    ∀ (fu i : Nat), i ≤ es.length → es.length - i < fu → posA c (es.drop i) i = pos c es → L.d3_L1_R es c (es.length : Int) fu i Kx Kr
  | 0, i, _, h, _ => by omega
  | fu + 1, i, hi, h, he => by
    show L.d3_L1_b es c (es.length : Int) i _ Kx Kr
    unfold L.d3_L1_b
    rcases Nat.lt_or_ge i es.length with g | g
    · refine cond_t (by simp; omega) ⟨⟨by omega, by omega⟩, ⟨?_⟩⟩
      rw [Int.toNat_natCast, i64_succ (i := i) (by omega), getD_get _ _ _ g]
      rw [List.drop_eq_getElem_cons g] at he
      simp only [posA] at he
      show bif (es[i].1 == c) then _ else _
      by_cases hp : es[i].1 = c
      · rw [if_pos hp] at he
        exact cond_t (by simpa using hp) (hr i he.symm)
      · rw [if_neg hp] at he
        exact cond_f (by simpa using hp) (find_loop hb hx hr fu (i + 1) g (by omega) he)
    · obtain rfl : i = es.length := by omega
      rw [List.drop_length] at he
      exact cond_f (by simp) (hx he.symm)
theorem find_ok {c : Int} {es : List Ent} {ld rj : List Int} {w : Int} (hb : es.length < 4611686018427387904) {K : Int → Prop} (hK : K (pos c es)) : L.e4 es ld rj w c K :=
  ⟨⟨⟨⟨es.length + 1, find_loop hb (fun h => by rw [h] at hK; exact hK) (fun k h => by rw [h] at hK; exact hK) (es.length + 1) 0 (by omega) (by omega) rfl⟩⟩⟩⟩
theorem index_loop {c : Int} {l : List Int} (hb : l.length < 4611686018427387904) {Kx : Prop} {Kr : Int → Prop} (hx : posI c l 0 = -1 → Kx) (hr : ∀ k : Nat, posI c l 0 = k → Kr k) :
    ∀ (fu i : Nat), i ≤ l.length → l.length - i < fu → posI c (l.drop i) i = posI c l 0 → L.c2_L1_R l c (l.length : Int) fu i Kx Kr
  | 0, i, _, h, _ => by omega
  | fu + 1, i, hi, h, he => by
    show L.c2_L1_b l c (l.length : Int) i _ Kx Kr
    unfold L.c2_L1_b
    rcases Nat.lt_or_ge i l.length with g | g
    · refine cond_t (by simp; omega) ⟨⟨by omega, by omega⟩, ?_⟩
      rw [Int.toNat_natCast, i64_succ (i := i) (by omega), getD_get _ _ _ g]
      rw [List.drop_eq_getElem_cons g] at he
      simp only [posI] at he
      by_cases hp : c = l[i]
      · rw [if_pos hp] at he
        exact cond_t (by simpa using hp) (hr i he.symm)
      · rw [if_neg hp] at he
        exact cond_f (by simpa using hp) (index_loop hb hx hr fu (i + 1) g (by omega) he)
    · obtain rfl : i = l.length := by omega
      rw [List.drop_length] at he
      exact cond_f (by simp) (hx he.symm)
theorem Index_ok {c : Int} {l : List Int} (hb : l.length < 4611686018427387904) {K : Int → Prop} (hK : K (posI c l 0)) : L.c2 l c K :=
  ⟨⟨⟨l.length + 1, index_loop hb (fun h => by rw [h] at hK; exact hK) (fun k h => by rw [h] at hK; exact hK) (l.length + 1) 0 (by omega) (by omega) rfl⟩⟩⟩
theorem Contains_ok {c : Int} {l : List Int} (hb : l.length < 4611686018427387904) {K : Bool → Prop} (hK : K (decide (posI c l 0 ≥ 0))) : L.f1 l c K :=
  ⟨Index_ok hb hK⟩
def chk (es : List Ent) (ld rj : List Int) (kd c p : Int) : Int :=
  if kd < 1 ∨ kd > 4 then 4 else
  if c < 1 ∨ c > 1000000000 ∨ p < 0 ∨ p > 3 then 3 else
  if kd ≠ 1 ∧ p ≠ 0 then 5 else
  if kd = 1 ∧ (pos c es ≥ 0 ∨ posI c ld 0 ≥ 0 ∨ posI c rj 0 ≥ 0) then 7 else
  if kd = 1 ∧ es.length ≥ 10 then 14 else
  if kd ≠ 1 ∧ pos c es < 0 then 6 else
  if kd ≥ 3 ∧ (es.getD (pos c es).toNat e0).2.2.1 = false then 11 else 0
theorem j1_ok {es : List Ent} {kd k : Int} {v : Bool} (hk : k < es.length) {Kn : Prop} {Kr : Int → Prop} (h7 : v = true → Kr 7) (h14 : v = false → kd = 1 ∧ es.length ≥ 10 → Kr 14)
    (h6 : v = false → ¬ (kd = 1 ∧ es.length ≥ 10) → kd ≠ 1 ∧ k < 0 → Kr 6) (h11 : v = false → ¬ (kd = 1 ∧ es.length ≥ 10) → ¬ (kd ≠ 1 ∧ k < 0) → kd ≥ 3 ∧ (es.getD k.toNat e0).2.2.1 = false → Kr 11)
    (h0 : v = false → ¬ (kd = 1 ∧ es.length ≥ 10) → ¬ (kd ≠ 1 ∧ k < 0) → ¬ (kd ≥ 3 ∧ (es.getD k.toNat e0).2.2.1 = false) → Kn) : L.e2_J1 es (kd == 1) k v kd Kn Kr := by
  refine ⟨?_⟩
  unfold L.e2_J1_B
  cases v with
  | true => exact h7 rfl
  | false =>
    refine cond_f rfl ?_
    by_cases a : kd = 1 ∧ es.length ≥ 10
    · exact cond_t (by simp only [band, Bool.and_eq_true, beq_iff_eq, decide_eq_true_eq]; omega) (h14 rfl a)
    refine cond_f (by simp only [band, Bool.and_eq_false_iff, beq_eq_false_iff_ne, decide_eq_false_iff_not]; omega) ?_
    by_cases b : kd ≠ 1 ∧ k < 0
    · exact cond_t (by simp only [band, Bool.and_eq_true, Bool.not_eq_true', beq_eq_false_iff_ne, decide_eq_true_eq]; exact b) (h6 rfl a b)
    refine cond_f (by simp only [band, Bool.and_eq_false_iff, Bool.not_eq_false', beq_iff_eq, decide_eq_false_iff_not]; omega) ⟨fun hd => ?_, ?_⟩
    · have : kd ≥ 3 := by simpa using hd
      exact ⟨by omega, hk⟩
    by_cases d : kd ≥ 3 ∧ (es.getD k.toNat e0).2.2.1 = false
    · exact cond_t (by simp only [band, Bool.and_eq_true, Bool.not_eq_true', decide_eq_true_eq]; exact d) (h11 rfl a b d)
    refine cond_f ?_ (h0 rfl a b d)
    simp only [band, Bool.and_eq_false_iff, Bool.not_eq_false', decide_eq_false_iff_not]
    by_cases e : kd ≥ 3
    · right
      cases hh : (es.getD k.toNat e0).2.2.1 with
      | true => rfl
      | false => exact absurd ⟨e, hh⟩ d
    · exact .inl e
theorem check_ok {es : List Ent} {ld rj : List Int} {w kd c p : Int} (hb : es.length ≤ 1000) (hl : ld.length ≤ 1000) (hr : rj.length ≤ 1000) {K : Int → Prop} (hK : K (chk es ld rj kd c p)) :
    L.e2 es ld rj w kd c p K := by
  refine ⟨find_ok (by omega) ?_⟩
  have hp : pos c es < es.length := by
    rcases posA_or c es 0 with ⟨h, _⟩ | ⟨k, e, h, h2, _⟩
    · show posA c es 0 < _
      rw [h]; omega
    · show posA c es 0 < _
      have := (List.getElem?_eq_some_iff.1 h2).1
      rw [h]; omega
  unfold chk at hK
  by_cases a : kd < 1 ∨ kd > 4
  · rw [if_pos a] at hK
    exact cond_t (by simp only [bor, Bool.or_eq_true, decide_eq_true_eq]; exact a) hK
  rw [if_neg a] at hK
  refine cond_f (by simp only [bor, Bool.or_eq_false_iff, decide_eq_false_iff_not]; omega) ?_
  by_cases b : c < 1 ∨ c > 1000000000 ∨ p < 0 ∨ p > 3
  · rw [if_pos b] at hK
    exact cond_t (by simp only [bor, Bool.or_eq_true, decide_eq_true_eq]; omega) hK
  rw [if_neg b] at hK
  refine cond_f (by simp only [bor, Bool.or_eq_false_iff, decide_eq_false_iff_not]; omega) ?_
  by_cases d : kd ≠ 1 ∧ p ≠ 0
  · rw [if_pos d] at hK
    exact cond_t (by simp only [band, Bool.and_eq_true, Bool.not_eq_true', beq_eq_false_iff_ne, bne_iff_ne]; exact d) hK
  rw [if_neg d] at hK
  refine cond_f (by
    cases h1 : (kd == 1) with
    | true => rfl
    | false =>
      simp only [Bool.not_false, cond_true]
      rw [beq_eq_false_iff_ne] at h1
      have : p = 0 := by omega
      simp [this]) ?_
  have J : ∀ v : Bool, (v = true ↔ kd = 1 ∧ (pos c es ≥ 0 ∨ posI c ld 0 ≥ 0 ∨ posI c rj 0 ≥ 0)) → L.e2_J1 es (kd == 1) (pos c es) v kd (K 0) K := fun v hv => by
    have hf : v = false → ¬ (kd = 1 ∧ (pos c es ≥ 0 ∨ posI c ld 0 ≥ 0 ∨ posI c rj 0 ≥ 0)) := fun h g => by
      rw [hv.2 g] at h; cases h
    refine j1_ok hp (fun h => ?_) (fun h g1 => ?_) (fun h g1 g2 => ?_) (fun h g1 g2 g3 => ?_) (fun h g1 g2 g3 => ?_)
    · rw [if_pos (hv.1 h)] at hK; exact hK
    · rw [if_neg (hf h), if_pos g1] at hK; exact hK
    · rw [if_neg (hf h), if_neg g1, if_pos g2] at hK; exact hK
    · rw [if_neg (hf h), if_neg g1, if_neg g2, if_pos g3] at hK; exact hK
    · rw [if_neg (hf h), if_neg g1, if_neg g2, if_neg g3] at hK; exact hK
  by_cases e1 : kd = 1
  · by_cases e2 : pos c es ≥ 0
    · refine cond_f (by simp [okAll, e1, e2]) (cond_t (by simp [okAll, e1]) (cond_f (by simp [okAll, e1]) ?_))
      exact J true (by simp [e1, e2])
    · refine cond_t (by simp [okAll, e1]; omega) (Contains_ok (by omega) ?_)
      by_cases e3 : posI c ld 0 ≥ 0
      · refine cond_f (by simp [okAll, e1, e2, e3]) ?_
        exact J true (by simp [e1, e3])
      · refine cond_t (by simp [okAll, e1, e2, e3]) (Contains_ok (by omega) ?_)
        refine J _ ?_
        simp [e1, e2, e3]
  · refine cond_f (by simp [okAll, e1]) (cond_f (by simp [okAll, e1]) ?_)
    exact J false (by simp [e1])
end Mq
end Go.Proofs.YtnpjonhoihbaeaaGreatDoor

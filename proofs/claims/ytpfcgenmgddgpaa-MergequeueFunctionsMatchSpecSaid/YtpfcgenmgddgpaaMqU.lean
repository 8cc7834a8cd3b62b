/-
  The functions return what the specification requires. Conditions: none.
-/
import Derived.Test.YtpfcgenmgddgpaaMqT
set_option maxRecDepth 100000
namespace Go.Proofs.Ytpfcgenmgddgpaa
open Eng
namespace Mq

theorem posI_chg (c : Int) : ∀ (es : List Ent) (i : Nat), posI c (chg es) i = posA c es i
  | [], _ => rfl
  | e :: r, i => by
    have h := posI_chg c r (i + 1)
    simp only [chg, List.map_cons, posI, posA] at h ⊢
    by_cases he : e.1 = c
    · rw [if_pos he, if_pos he.symm]
    · rw [if_neg he, if_neg (fun g => he g.symm), h]

theorem fx1 {c how at_ : Int} {k : Nat} {e2 : Int} {lists : List (List Int)} {l : List Int} (hk : lists[k]? = some l) (hb : l.length ≤ 1000) {Kx : Prop} {Kr : Bool → Prop} (hx : posI c l 0 < 0 → Kx)
    (hr : ∀ j : Nat, posI c l 0 = j → Kr (bif (bif (e2 == 0) then (how == (k : Int)) else false) then (at_ == (j : Int)) else false)) : ∀ (fu i : Nat), i ≤ l.length → l.length - i < fu → posI c (l.drop i) i = posI c l 0 →
    L.law8_MergequeueFunctionsMatchSpec_L1_R c how at_ k e2 lists fu i Kx Kr
  | 0, i, _, h, _ => by omega
  | fu + 1, i, hi, h, he => by
    show L.law8_MergequeueFunctionsMatchSpec_L1_b c how at_ k e2 lists i _ Kx Kr
    unfold L.law8_MergequeueFunctionsMatchSpec_L1_b
    have hkl := (List.getElem?_eq_some_iff.1 hk).1
    have hin : inB (k : Int) lists.length := ⟨by omega, by omega⟩
    rw [Int.toNat_natCast, getD_of _ hk]
    refine ⟨hin, ?_⟩
    rcases Nat.lt_or_ge i l.length with g | g
    · refine cond_t (by simp; omega) ⟨hin, ⟨by omega, by omega⟩, ?_⟩
      rw [Int.toNat_natCast, i64_succ (i := i) (by omega), getD_get _ _ _ g]
      rw [List.drop_eq_getElem_cons g] at he
      simp only [posI] at he
      by_cases hp : c = l[i]
      · rw [if_pos hp] at he
        exact cond_t (by simpa using hp.symm) (hr i he.symm)
      · rw [if_neg hp] at he
        exact cond_f (by rw [beq_eq_false_iff_ne]; exact fun e => hp e.symm) (fx1 hk hb hx hr fu (i + 1) g (by omega) he)
    · obtain rfl : i = l.length := by omega
      rw [List.drop_length] at he
      simp only [posI] at he
      exact cond_f (by simp) (hx (by omega))

theorem fx2 {c how at_ e2 : Int} {a b d : List Int} (ha : a.length ≤ 1000) (hb : b.length ≤ 1000) (hd : d.length ≤ 1000) {Kx : Prop} {Kr : Bool → Prop}
    (h1 : ∀ j : Nat, posI c a 0 = j → Kr (bif (bif (e2 == 0) then (how == 1) else false) then (at_ == (j : Int)) else false))
    (h2 : posI c a 0 < 0 → ∀ j : Nat, posI c b 0 = j → Kr (bif (bif (e2 == 0) then (how == 2) else false) then (at_ == (j : Int)) else false))
    (h3 : posI c a 0 < 0 → posI c b 0 < 0 → ∀ j : Nat, posI c d 0 = j → Kr (bif (bif (e2 == 0) then (how == 3) else false) then (at_ == (j : Int)) else false))
    (h4 : posI c a 0 < 0 → posI c b 0 < 0 → posI c d 0 < 0 → Kx) : L.law8_MergequeueFunctionsMatchSpec_L2 c how at_ e2 ([[], a, b, d]) 1 Kx Kr := by
  have w1 : i64 (((1 : Nat) : Int) + 1) = ((2 : Nat) : Int) := i64_succ (by omega)
  have w2 : i64 (((2 : Nat) : Int) + 1) = ((3 : Nat) : Int) := i64_succ (by omega)
  have w3 : i64 (((3 : Nat) : Int) + 1) = ((4 : Nat) : Int) := i64_succ (by omega)
  refine ⟨⟨4, ?_⟩⟩
  show L.law8_MergequeueFunctionsMatchSpec_L2_b c how at_ e2 [[], a, b, d] ((1 : Nat) : Int) _ Kx Kr
  unfold L.law8_MergequeueFunctionsMatchSpec_L2_b
  rw [w1]
  refine cond_t (by decide) ⟨⟨a.length + 1, fx1 (k := 1) (l := a) rfl ha (fun g1 => ?_) h1 (a.length + 1) 0 (by omega) (by omega) rfl⟩⟩
  show L.law8_MergequeueFunctionsMatchSpec_L2_b c how at_ e2 [[], a, b, d] ((2 : Nat) : Int) _ Kx Kr
  unfold L.law8_MergequeueFunctionsMatchSpec_L2_b
  rw [w2]
  refine cond_t (by decide) ⟨⟨b.length + 1, fx1 (k := 2) (l := b) rfl hb (fun g2 => ?_) (h2 g1) (b.length + 1) 0 (by omega) (by omega) rfl⟩⟩
  show L.law8_MergequeueFunctionsMatchSpec_L2_b c how at_ e2 [[], a, b, d] ((3 : Nat) : Int) _ Kx Kr
  unfold L.law8_MergequeueFunctionsMatchSpec_L2_b
  rw [w3]
  refine cond_t (by decide) ⟨⟨d.length + 1, fx1 (k := 3) (l := d) rfl hd (fun g3 => ?_) (h3 g1 g2) (d.length + 1) 0 (by omega) (by omega) rfl⟩⟩
  show L.law8_MergequeueFunctionsMatchSpec_L2_b c how at_ e2 [[], a, b, d] ((4 : Nat) : Int) _ Kx Kr
  unfold L.law8_MergequeueFunctionsMatchSpec_L2_b
  exact cond_f (by decide) (h4 g1 g2 g3)

theorem runL_nil {w : Nat} : ∀ (r : List Ev) (i : Nat) (s : St), (runL w r i s).1.1 ≠ 0 → (runL w r i s).2 = ([], ([], []))
  | [], _, _, h => absurd rfl h
  | e :: r, i, s, h => by
    simp only [runL] at h ⊢
    split at h
    · next h1 =>
      rw [if_pos h1]
      exact runL_nil r (i + 1) _ h
    · next h1 => rw [if_neg h1]

theorem runQ_nil {w : Int} {es : List Ev} (h : (runQ w es).1.1 ≠ 0) : (runQ w es).2 = ([], ([], [])) := by
  unfold runQ at h ⊢
  split at h
  · next h1 => rw [if_pos h1]
  · next h1 =>
    rw [if_neg h1]
    split at h
    · next h2 => rw [if_pos h2]
    · next h2 => rw [if_neg h2]; exact runL_nil _ _ _ h

theorem w_ok (w : Int) (es : List Ev) : W (runQ w es).2.1 := by
  by_cases h : (runQ w es).1.1 = 0
  · exact (gd_ok h).wf
  · rw [runQ_nil h]
    exact (gd_nil 0).wf

theorem fms_x {w : Int} {es : List Ev} {J : Prop} {K : Bool → Prop} (hJ : J) : (bif okAll [((!(((runQ w es).1.1 == (runQ w es).1.1) && (((runQ w es).1.2 == (runQ w es).1.2) && true))), false)] then
    L.ref8_Queue_State_h27 (chg (runQ w es).2.1) (prs (runQ w es).2.1) (sts (runQ w es).2.1) (runQ w es).2.2.1 (runQ w es).2.2.2 (fun r15 r16 r17 => L.ref8_EqualQueues (runQ w es).2.1 (runQ w es).2.2.1 (runQ w es).2.2.2 r17 r15 r16 (fun r18 => L.law8_MergequeueFunctionsMatchSpec_J1 (!r18) J K))
    else L.law8_MergequeueFunctionsMatchSpec_J1 true J K) := by
  have hI := runQ_inv w es
  have h1 := hI.1
  exact cond_t (by simp [okAll]) (state_ok (by omega) (w_ok w es) (eqq_ok (by omega) (by omega) (by omega) hI.2 ⟨cond_f rfl hJ⟩))

theorem fms_true (w : Int) (es : List Ev) (c : Int) (K : Bool → Prop) (hK : K true) : L.law8_MergequeueFunctionsMatchSpec w es c K := by
  have h1 := (runQ_inv w es).1
  have tr : ∀ b : Bool, b = true → K b := fun b hb => by rw [hb]; exact hK
  have jump : ∀ how at_ e2 e21 : Int, (runQ w es).1 = (0, 0) →
      (∀ j : Nat, posI c (runQ w es).2.2.1 0 = j → (bif (bif (e2 == 0) then (how == 1) else false) then (at_ == (j : Int)) else false) = true) →
      (posI c (runQ w es).2.2.1 0 < 0 → ∀ j : Nat, posI c (runQ w es).2.2.2 0 = j → (bif (bif (e2 == 0) then (how == 2) else false) then (at_ == (j : Int)) else false) = true) →
      (posI c (runQ w es).2.2.1 0 < 0 → posI c (runQ w es).2.2.2 0 < 0 → ∀ j : Nat, pos c (runQ w es).2.1 = j → (bif (bif (e2 == 0) then (how == 3) else false) then (at_ == (j : Int)) else false) = true) →
      (posI c (runQ w es).2.2.1 0 < 0 → posI c (runQ w es).2.2.2 0 < 0 → pos c (runQ w es).2.1 < 0 → (bif (bif ((e2 == 6) && ((e21 == (-3)) && true)) then (how == 0) else false) then (at_ == 0) else false) = true) →
      L.law8_MergequeueFunctionsMatchSpec_J2 c how at_ e2 e21 (chg (runQ w es).2.1) (runQ w es).2.2.1 (runQ w es).2.2.2 (runQ w es).1.1 (runQ w es).1.2 K := fun how at_ e2 e21 hc g1 g2 g3 g4 => by
    refine ⟨cond_f (by rw [hc]; rfl) ?_⟩
    refine fx2 (by omega) (by omega) (by rw [len_chg]; omega) (fun j hj => tr _ (g1 j hj)) (fun x j hj => tr _ (g2 x j hj)) (fun x y j hj => tr _ (g3 x y j ?_)) (fun x y z => ⟨tr _ (g4 x y ?_)⟩)
    · rw [posI_chg] at hj; exact hj
    · rw [posI_chg] at z; exact z
  refine ⟨run_ok (outcome_ok (fun hc => ?_) (fun hc a => ?_) (fun hc a b => ?_) (fun hc a b d => ?_) (fun hc a b d => ?_))⟩
  · have hne : (runQ w es).1.1 ≠ 0 := by
      rcases runQ_code w es with h | h
      · exact absurd h hc
      · exact h
    have J : L.law8_MergequeueFunctionsMatchSpec_J2 c 0 0 (runQ w es).1.1 (runQ w es).1.2 (chg (runQ w es).2.1) (runQ w es).2.2.1 (runQ w es).2.2.2 (runQ w es).1.1 (runQ w es).1.2 K :=
      ⟨cond_t (by simpa using hne) (tr _ (by simp))⟩
    exact example_ok (cond_f rfl (rrun_ok ⟨fms_x J, fms_x J⟩))
  · have J := jump 1 (posI c (runQ w es).2.2.1 0) 0 0 hc (fun j hj => by rw [hj]; simp) (fun x => by omega) (fun x => by omega) (fun x => by omega)
    exact example_ok (cond_f rfl (rrun_ok ⟨fms_x J, fms_x J⟩))
  · have J := jump 2 (posI c (runQ w es).2.2.2 0) 0 0 hc (fun j hj => by omega) (fun _ j hj => by rw [hj]; simp) (fun _ x => by omega) (fun _ x => by omega)
    exact example_ok (cond_f rfl (rrun_ok ⟨fms_x J, fms_x J⟩))
  · have J := jump 3 (pos c (runQ w es).2.1) 0 0 hc (fun j hj => by omega) (fun _ j hj => by omega) (fun _ _ j hj => by rw [hj]; simp) (fun _ _ x => by omega)
    exact example_ok (cond_f rfl (rrun_ok ⟨fms_x J, fms_x J⟩))
  · have J := jump 0 0 6 (-3) hc (fun j hj => by omega) (fun _ j hj => by omega) (fun _ _ j hj => by omega) (fun _ _ _ => by decide)
    exact example_ok (cond_f rfl (rrun_ok ⟨fms_x J, fms_x J⟩))

end Mq

theorem MergequeueFunctionsMatchSpec_true (xs : ArgDen [(false, (.int .i64)), (false, EvT), (false, (.int .i64))]) (_ : WfAll _ xs) (K : Bool → Prop) (hK : K true) : L.law8_MergequeueFunctionsMatchSpec xs.1 xs.2.1 xs.2.2.1 K :=
  Mq.fms_true xs.1 xs.2.1 xs.2.2.1 K hK

end Go.Proofs.Ytpfcgenmgddgpaa

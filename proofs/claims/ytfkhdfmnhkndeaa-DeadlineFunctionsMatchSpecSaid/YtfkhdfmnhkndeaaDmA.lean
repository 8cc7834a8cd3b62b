/-
  The specification's simulation: which process is considered next. Conditions: none.
-/
import Derived.Test.YtfkhdfmnhkndeaaDlF
set_option linter.unusedVariables false
set_option linter.unusedSimpArgs false
namespace Go.Proofs.Ytfkhdfmnhkndeaa
open Eng
namespace Dl

/-- May this process be considered? -/
def due (sc : List (List Op)) (nx : List Int) (seen : List Bool) (p : Nat) : Bool := !seen.getD p false && decide (nx.getD p 0 < ((sc.getD p []).length : Int))

/-- The process that is considered next. -/
def pk (sc : List (List Op)) (nx sn : List Int) (seen : List Bool) : Nat → Nat → Int → Int
  | 0, _, b => b
  | f + 1, p, b => if (due sc nx seen p && (decide (b < 0) || decide (sn.getD p 0 < sn.getD b.toNat 0))) = true then pk sc nx sn seen f (p + 1) p else pk sc nx sn seen f (p + 1) b

theorem low10 (a0 a1 a2 a3 a4 b0 b1 b2 b3 b4 : Int) {p : Nat} (h : p < 5) : ([a0, a1, a2, a3, a4, b0, b1, b2, b3, b4] : List Int).getD p 0 = ([a0, a1, a2, a3, a4] : List Int).getD p 0 := by
  match p, h with
  | 0, _ => rfl
  | 1, _ => rfl
  | 2, _ => rfl
  | 3, _ => rfl
  | 4, _ => rfl

theorem pick_loop {sc : List (List Op)} (hsc : sc.length ≤ 5) {n0 n1 n2 n3 n4 s0 s1 s2 s3 s4 : Int} {e0 e1 e2 e3 e4 : Bool} {K : Int → Prop} : ∀ (fu p : Nat) (b : Int), p ≤ sc.length → sc.length - p < fu → b < 5 →
    K (pk sc [n0, n1, n2, n3, n4] [s0, s1, s2, s3, s4] [e0, e1, e2, e3, e4] (sc.length - p) p b) → L.ref8_World_pick_h51_L1_R sc n0 n1 n2 n3 n4 s0 s1 s2 s3 s4 e0 e1 e2 e3 e4 fu b p K
  | 0, p, b, _, h, _, _ => by omega
  | fu + 1, p, b, hp, h, hb, hK => by
    show L.ref8_World_pick_h51_L1_b sc n0 n1 n2 n3 n4 s0 s1 s2 s3 s4 e0 e1 e2 e3 e4 b p _ K
    unfold L.ref8_World_pick_h51_L1_b
    rcases Nat.lt_or_ge p sc.length with g | g
    · have hf : sc.length - p = (sc.length - (p + 1)) + 1 := by omega
      rw [hf, pk] at hK
      have b5 : inB (p : Int) 5 := ⟨by omega, by omega⟩
      have bs : inB (p : Int) sc.length := ⟨by omega, by omega⟩
      have h10 := low10 n0 n1 n2 n3 n4 s0 s1 s2 s3 s4 (show p < 5 by omega)
      simp only [Int.toNat_natCast, h10]
      have ei : i64 ((p : Int) + 1) = ((p + 1 : Nat) : Int) := by rw [i64_id (by omega) (by omega)]; omega
      rw [ei]
      have bb : ∀ {q : Bool}, (q == true) = true → (((decide (b < 0)) == false) = true → inB b 5) := fun _ hh => by
        simp only [beq_iff_eq, decide_eq_false_iff_not] at hh
        exact ⟨by omega, by omega⟩
      have bn : ∀ {q : Bool}, (q == true) = true → (((decide (b < 0)) == false) = true → b.toNat < 5) := fun _ hh => by
        simp only [beq_iff_eq, decide_eq_false_iff_not] at hh
        omega
      refine cond_t (decide_eq_true (by omega)) ⟨b5, by omega, fun _ => b5, fun _ => by omega, fun _ => bs, fun _ _ => b5, fun _ _ => by omega, bb, bn, ?_⟩
      have ec : (bif (bif (!(([e0, e1, e2, e3, e4] : List Bool).getD p false)) then (decide ((([n0, n1, n2, n3, n4] : List Int).getD p 0) < ((sc.getD p []).length : Int))) else false) then (bif (decide (b < 0)) then true else (decide ((([s0, s1, s2, s3, s4] : List Int).getD p 0) < (([s0, s1, s2, s3, s4] : List Int).getD b.toNat 0)))) else false) =
          (due sc [n0, n1, n2, n3, n4] [e0, e1, e2, e3, e4] p && (decide (b < 0) || decide (([s0, s1, s2, s3, s4] : List Int).getD p 0 < ([s0, s1, s2, s3, s4] : List Int).getD b.toNat 0))) := by
        unfold due
        cases (!(([e0, e1, e2, e3, e4] : List Bool).getD p false)) <;> cases (decide ((([n0, n1, n2, n3, n4] : List Int).getD p 0) < ((sc.getD p []).length : Int))) <;> cases (decide (b < 0)) <;> rfl
      rw [ec]
      cases c : (due sc [n0, n1, n2, n3, n4] [e0, e1, e2, e3, e4] p && (decide (b < 0) || decide (([s0, s1, s2, s3, s4] : List Int).getD p 0 < ([s0, s1, s2, s3, s4] : List Int).getD b.toNat 0))) with
      | true =>
        rw [if_pos c] at hK
        exact pick_loop hsc fu (p + 1) p (by omega) (by omega) (by omega) hK
      | false =>
        rw [if_neg (by rw [c]; decide)] at hK
        exact pick_loop hsc fu (p + 1) b (by omega) (by omega) hb hK
    · have hf : sc.length - p = 0 := by omega
      rw [hf] at hK
      exact cond_f (decide_eq_false (by omega)) hK

end Dl
end Go.Proofs.Ytfkhdfmnhkndeaa

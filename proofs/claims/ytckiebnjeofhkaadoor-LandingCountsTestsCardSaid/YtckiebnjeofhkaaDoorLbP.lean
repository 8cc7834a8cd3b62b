/-
  The search for culprits: the functions match the specification. Conditions: none.
-/
import Derived.Test.YtckiebnjeofhkaaDoorLbA
set_option linter.unusedVariables false
set_option maxRecDepth 100000
namespace Go.Proofs.YtckiebnjeofhkaaDoor
open Eng
namespace Bb

/-- How many members are missing. -/
def cnt (set s : List Int) : Nat := (s.filter fun k => !has set k).length

theorem cnt_zero {set s : List Int} : ((cnt set s : Int) == 0) = s.all (has set) := by
  apply bool_iff
  rw [beq_iff_eq, List.all_eq_true]
  constructor
  · intro h k hk
    have h0 : (s.filter fun k => !has set k) = [] := List.eq_nil_of_length_eq_zero (by unfold cnt at h; omega)
    rw [List.filter_eq_nil_iff] at h0
    have := h0 k hk
    simpa using this
  · intro h
    have : (s.filter fun k => !has set k) = [] := List.filter_eq_nil_iff.mpr fun k hk => by simp [h k hk]
    unfold cnt; rw [this]; rfl

theorem Failing2_loop {cs : List (List Int)} {set s : List Int} {i : Nat} (hi : i < cs.length) (hb : big cs.length) (he : cs.getD i [] = s) (hl : big s.length) (hc : big set.length) {K : Int → Prop} (hK : K (cnt set s)) :
    ∀ (fu k m : Nat), k ≤ s.length → s.length - k < fu → m ≤ k → m + cnt set (s.drop k) = cnt set s → L.ref8_Failing_L2_R cs set i fu m k K
  | 0, k, m, _, h, _, _ => by omega
  | fu + 1, k, m, hk, h, hm, hs => by
    show L.ref8_Failing_L2_b cs set i m k _ _
    unfold L.ref8_Failing_L2_b
    have hin : inB (i : Int) cs.length := inB_of (by omega) (by omega)
    simp only [Int.toNat_natCast, he]
    unfold big at *
    refine ⟨hin, ?_⟩
    rcases Nat.lt_or_ge k s.length with g | g
    · refine cond_t (by simp; omega) ⟨hin, inB_of (by omega) (by omega), Has_ok hc ?_⟩
      rw [drop_cons (0 : Int) g] at hs
      unfold cnt at hs
      rw [List.filter_cons] at hs
      rw [i64_id (n := (k : Int) + 1) (by omega) (by omega)]
      cases e : has set (s.getD k 0) with
      | true =>
        rw [e] at hs
        simp only [Bool.not_true, Bool.false_eq_true, if_false] at hs
        exact cond_f rfl (Failing2_loop hi hb he hl hc hK fu (k + 1) m (by omega) (by omega) (by omega) hs)
      | false =>
        rw [e] at hs
        simp only [Bool.not_false, if_true, List.length_cons] at hs
        rw [i64_id (n := (m : Int) + 1) (by omega) (by omega)]
        exact cond_t rfl (Failing2_loop hi hb he hl hc hK fu (k + 1) (m + 1) (by omega) (by omega) (by omega) (by unfold cnt; omega))
    · rw [List.drop_eq_nil_of_le g] at hs
      have : m = cnt set s := by simpa [cnt] using hs
      rw [this]
      exact cond_f (by simp; omega) hK

theorem Failing_loop {cs : List (List Int)} {set : List Int} (hb : big cs.length) (hs : ∀ s, s ∈ cs → big s.length) (hc : big set.length) {K : Bool → Prop} : ∀ (fu i : Nat), i ≤ cs.length → cs.length - i < fu → K (fails (cs.drop i) set) →
    L.ref8_Failing_L1_R cs set fu i (K false) K
  | 0, i, _, h, _ => by omega
  | fu + 1, i, hi, h, hK => by
    show L.ref8_Failing_L1_b cs set i _ _ _
    unfold L.ref8_Failing_L1_b
    rcases Nat.lt_or_ge i cs.length with g | g
    · refine cond_t (by simp; omega) ⟨⟨_, Failing2_loop g hb rfl (hs _ (getD_mem [] g)) hc ?_ ((cs.getD i []).length + 1) 0 0 (by omega) (by omega) (by omega) (by simp)⟩⟩
      rw [drop_cons [] g] at hK
      rw [cnt_zero]
      unfold fails at hK
      rw [List.any_cons] at hK
      cases e : (cs.getD i []).all (has set) with
      | true => rw [e] at hK; exact cond_t rfl hK
      | false =>
        rw [e, Bool.false_or] at hK
        unfold big at *
        rw [i64_id (by omega) (by omega)]
        exact cond_f rfl (Failing_loop hb hs hc fu (i + 1) (by omega) (by omega) hK)
    · rw [List.drop_eq_nil_of_le g] at hK
      exact cond_f (by simp; omega) hK

theorem Failing_ok {cs : List (List Int)} {set : List Int} (hb : big cs.length) (hs : ∀ s, s ∈ cs → big s.length) (hc : big set.length) {K : Bool → Prop} (hK : K (fails cs set)) : L.ref8_Failing cs set K :=
  ⟨⟨⟨_, Failing_loop hb hs hc (cs.length + 1) 0 (by omega) (by omega) hK⟩⟩⟩

theorem Landed_ok {cs : List (List Int)} {l : List Int} {c : Int} (hb : big cs.length) (hs : ∀ s, s ∈ cs → big s.length) (hl : l.length ≤ 100) {K : Bool → Prop} (hK : K (!fails cs (l ++ [c]))) : L.ref8_Landed cs l c K := by
  constructor
  unfold L.ref8_Landed_B
  refine ⟨fits_of (by simp; omega), fits_of (by simp; omega), ?_⟩
  rw [List.nil_append]
  exact Failing_ok hb hs (by unfold big; simp; omega) hK

theorem Fault_ok {a b : Int} {K : Int → Int → Prop} (hK : K a b) : L.ref8_Fault a b K := ⟨hK⟩

end Bb

end Go.Proofs.YtckiebnjeofhkaaDoor

/-
  What the functions of the search for culprits compute: validation, runs. Conditions: none.
-/
import Derived.Test.YtckiebnjeofhkaaDoorLbR
set_option linter.unusedVariables false
namespace Go.Proofs.YtckiebnjeofhkaaDoor
open Eng
namespace Bb

theorem IndexFunc6_loopF {s c : List Int} (hl : big s.length) (hc : big c.length) {K : Int → Prop} : ∀ (fu i : Nat), i ≤ s.length → s.length - i < fu → (∀ r : Int, (0 ≤ r ↔ (s.drop i).any (fun k => !has c k) = true) → K r) → L.slices_IndexFunc_i2_v28_L1_R s c (s.length : Int) fu i (K (-1)) K
  | 0, i, _, h, _ => by omega
  | fu + 1, i, hi, h, hK => by
    unfold big at hl
    show L.slices_IndexFunc_i2_v28_L1_b s c _ i _ _ _
    unfold L.slices_IndexFunc_i2_v28_L1_b
    rcases Nat.lt_or_ge i s.length with g | g
    · rw [drop_cons 0 g, List.any_cons] at hK
      refine cond_t (by simp; omega) ⟨inB_of (by omega) (by omega), ⟨⟨Contains_ok hc ?_⟩⟩⟩
      simp only [Int.toNat_natCast]
      cases e : has c (s.getD i 0) with
      | false => exact cond_t rfl (hK _ (by rw [e]; exact ⟨fun _ => rfl, fun _ => by omega⟩))
      | true =>
        refine cond_f rfl ?_
        rw [i64_id (by omega) (by omega)]
        refine IndexFunc6_loopF hl hc fu (i + 1) (by omega) (by omega) fun r hr => hK r ?_
        rw [hr, e]; exact Iff.rfl
    · rw [List.drop_eq_nil_of_le g] at hK
      exact cond_f (by simp; omega) (hK _ (by simp))

theorem Run1_okF {s c : List Int} (hl : big s.length) (hc : big c.length) {K : Bool → Prop} (hK : K (s.all (has c))) : L.batchbisect_Run_1_v26 s c K := by
  refine ⟨⟨⟨⟨⟨s.length + 1, IndexFunc6_loopF (K := fun r => K (!decide (r ≥ 0))) hl hc _ 0 (by omega) (by omega) fun r hr => ?_⟩⟩⟩⟩⟩
  have e : (!decide (r ≥ 0)) = s.all (has c) := by
    rw [← all_not_any]
    congr 1
    have hr' : (r ≥ 0) ↔ (s.any fun k => !has c k) = true := by simpa using hr
    rw [dec_bool hr']
  rw [e]; exact hK

theorem IndexFunc3_loopF {cs : List (List Int)} {c : List Int} (hl : big cs.length) (hs : ∀ s, s ∈ cs → big s.length) (hc : big c.length) {K : Int → Prop} : ∀ (fu i : Nat), i ≤ cs.length → cs.length - i < fu → (∀ r : Int, (0 ≤ r ↔ fails (cs.drop i) c = true) → K r) → L.slices_IndexFunc_v25_L1_R cs c (cs.length : Int) fu i (K (-1)) K
  | 0, i, _, h, _ => by omega
  | fu + 1, i, hi, h, hK => by
    unfold big at hl
    show L.slices_IndexFunc_v25_L1_b cs c _ i _ _ _
    unfold L.slices_IndexFunc_v25_L1_b
    rcases Nat.lt_or_ge i cs.length with g | g
    · unfold fails at hK
      rw [drop_cons [] g, List.any_cons] at hK
      have hb := hs _ (getD_mem [] g)
      refine cond_t (by simp; omega) ⟨inB_of (by omega) (by omega), ?_⟩
      simp only [Int.toNat_natCast]
      refine Run1_okF hb hc ?_
      cases e : (cs.getD i []).all (has c) with
      | true => exact cond_t rfl (hK _ (by rw [e]; exact ⟨fun _ => rfl, fun _ => by omega⟩))
      | false =>
        refine cond_f rfl ?_
        rw [i64_id (by omega) (by omega)]
        refine IndexFunc3_loopF hl hs hc fu (i + 1) (by omega) (by omega) fun r hr => hK r ?_
        rw [hr, e]; exact Iff.rfl
    · rw [List.drop_eq_nil_of_le g] at hK
      exact cond_f (by simp; omega) (hK _ (by simp [fails]))

theorem Run_okF {cs : List (List Int)} {c : List Int} (hl : big cs.length) (hs : ∀ s, s ∈ cs → big s.length) (hc : big c.length) {K : Bool → Prop} (hK : K (fails cs c)) : L.batchbisect_Run_v23 cs c K := by
  refine ⟨⟨⟨⟨⟨cs.length + 1, IndexFunc3_loopF (K := fun r => K (decide (r ≥ 0))) hl hs hc _ 0 (by omega) (by omega) fun r hr => ?_⟩⟩⟩⟩⟩
  have hr' : (r ≥ 0) ↔ fails cs c = true := by simpa using hr
  have e : decide (r ≥ 0) = fails cs c := dec_bool hr'
  rw [e]; exact hK

end Bb
end Go.Proofs.YtckiebnjeofhkaaDoor

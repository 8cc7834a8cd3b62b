/-
  RolloutConfirmsBeforeNext as a plain law about the lifted functions. Conditions: none.
-/
import Derived.Test.YtgedmbndmdphdaaRoH
namespace Go.Proofs.Ytgedmbndmdphdaa
open Eng
namespace Ro
open Can (okC okC_nat)

theorem has_loop {xs : List Int} {v : Int} (hb : xs.length ≤ 40) {K : Bool → Prop} (h1 : v ∉ xs → K false) (h2 : v ∈ xs → K true) : ∀ (fu i : Nat), i ≤ xs.length → xs.length - i < fu → v ∉ xs.take i →
    L.ref8_Has_L1_R xs v fu i (K false) K
  | 0, i, _, h, _ => by omega
  | fu + 1, i, hi, h, hn => by
    show L.ref8_Has_L1_b xs v i _ _ K
    unfold L.ref8_Has_L1_b
    rcases Nat.lt_or_ge i xs.length with g | g
    · refine cond_t (by simp; omega) ⟨⟨by omega, by omega⟩, ?_⟩
      rw [Int.toNat_natCast]
      by_cases hv : xs.getD i 0 = v
      · refine cond_t (beq_iff_eq.2 hv) (h2 ?_)
        rw [← hv, getD_get _ _ _ g]
        exact List.getElem_mem g
      · refine cond_f (beq_eq_false_iff_ne.2 hv) ?_
        rw [i64_id (by omega) (by omega)]
        have := has_loop hb h1 h2 fu (i + 1) g (by omega) (fun hx => by
          rw [List.take_add_one, List.mem_append] at hx
          rcases hx with hx | hx
          · exact hn hx
          · rw [List.getElem?_eq_getElem g] at hx
            simp only [Option.toList_some, List.mem_singleton] at hx
            rw [getD_get _ _ _ g] at hv
            exact hv hx.symm)
        exact_mod_cast this
    · obtain rfl : i = xs.length := by omega
      rw [List.take_length] at hn
      exact cond_f (by simp) (h1 hn)

theorem has_in {xs : List Int} {v : Int} (hb : xs.length ≤ 40) (h : v ∈ xs) {K : Bool → Prop} (hK : K true) : L.ref8_Has xs v K :=
  ⟨⟨⟨xs.length + 1, by exact_mod_cast has_loop hb (fun h' => absurd h h') (fun _ => hK) (xs.length + 1) 0 (by omega) (by omega) (by simp)⟩⟩⟩

theorem has_out {xs : List Int} {v : Int} (hb : xs.length ≤ 40) (h : v ∉ xs) {K : Bool → Prop} (hK : K false) : L.ref8_Has xs v K :=
  ⟨⟨⟨xs.length + 1, by exact_mod_cast has_loop hb (fun _ => hK) (fun h' => absurd h' h) (xs.length + 1) 0 (by omega) (by omega) (by simp)⟩⟩⟩

theorem conf_inner {P : Par} {a : List Row} (hg : Good P a) (hT : Small 40 a) (hal : a.length ≤ 5) {i : Nat} (hi : i < a.length) {K2 : Prop} {Kr : Bool → Prop} (hK : K2) : ∀ (fu k : Nat), k ≤ (List.getD a i ([], (0, (0, 0)))).1.length → (List.getD a i ([], (0, (0, 0)))).1.length - k < fu →
    L.law8_RolloutConfirmsBeforeNext_L1_R i a fu k K2 Kr
  | 0, k, _, h => by omega
  | fu + 1, k, hk, h => by
    show L.law8_RolloutConfirmsBeforeNext_L1_b i a k _ K2 Kr
    unfold L.law8_RolloutConfirmsBeforeNext_L1_b
    have hin : inB (i : Int) a.length := ⟨by omega, by omega⟩
    have hrow := hg.row i hi
    have hl := (hT.at hi).1
    rw [Int.toNat_natCast]
    rcases Nat.lt_or_ge k (List.getD a i ([], (0, (0, 0)))).1.length with g | g
    · have ih := conf_inner hg hT hal hi hK (Kr := Kr) fu (k + 1) g (by omega)
      rw [show ((k + 1 : Nat) : Int) = (k : Int) + 1 from by omega] at ih
      rw [Int.toNat_natCast, i64_id (n := (k : Int) + 1) (by omega) (by omega), i64_id (n := (k : Int) - 1) (by omega) (by omega), i64_id (n := (i : Int) - 1) (by omega) (by omega)]
      have hin2 : inB (k : Int) (List.getD a i ([], (0, (0, 0)))).1.length := ⟨by omega, by omega⟩
      have hX : (bif decide ((k : Int) > 0) then decide ((List.getD a i ([], (0, (0, 0)))).1.getD k 0 ≤ (List.getD a i ([], (0, (0, 0)))).1.getD ((k : Int) - 1).toNat 0) else false) = false := by
        by_cases h0 : k = 0
        · subst h0; rfl
        · rw [decide_eq_true (show (k : Int) > 0 by omega), show ((k : Int) - 1).toNat = k - 1 from by omega, getD_get _ _ _ g, getD_get _ _ _ (show k - 1 < _ by omega)]
          have := List.pairwise_iff_getElem.1 hrow.inc (k - 1) k (by omega) g (by omega)
          exact decide_eq_false (by omega)
      rw [hX]
      refine ⟨hin, cond_t (decide_eq_true (by omega)) ⟨fun _ => hin, fun _ => hin2, fun _ => hin, fun hp => ?_, fun _ hp => ?_, fun _ _ => hin, fun _ _ => hin2, ?_⟩⟩
      · have : (k : Int) > 0 := by simpa using hp
        exact ⟨by omega, by omega⟩
      · have : (i : Int) > 0 := by simpa using hp
        exact ⟨by omega, by omega⟩
      · by_cases h0 : i = 0
        · rw [decide_eq_false (show ¬ (i : Int) > 0 by omega)]
          exact cond_f rfl (cond_t rfl ⟨cond_f rfl ih⟩)
        · rw [decide_eq_true (show (i : Int) > 0 by omega), show ((i : Int) - 1).toNat = i - 1 from by omega]
          refine cond_t rfl (has_in (hT.at (show i - 1 < a.length by omega)).1 ?_ ⟨cond_f rfl ih⟩)
          have hs := (hg.adj (i - 1) (by omega)).sub
          rw [show i - 1 + 1 = i from by omega] at hs
          refine hs _ ?_
          rw [getD_get _ _ _ g]
          exact List.getElem_mem g
    · exact ⟨hin, cond_f (decide_eq_false (by omega)) hK⟩

theorem conf3_ok {P : Par} {a : List Row} (hg : Good P a) {i : Nat} (hi : i < a.length) {Kn : Prop} {Kr : Bool → Prop} (hK : Kn) : L.law8_RolloutConfirmsBeforeNext_J3 i a Kn Kr := by
  have hin : inB (i : Int) a.length := ⟨by omega, by omega⟩
  refine ⟨⟨hin, fun _ => hin, fun _ _ => hin, cond_f ?_ hK⟩⟩
  rw [Int.toNat_natCast]
  by_cases h0 : (List.getD a i ([], (0, (0, 0)))).2.1 = 0
  · have := (hg.row i hi).cnt h0
    rw [beq_iff_eq.2 h0, this]
    rfl
  · rw [beq_eq_false_iff_ne.2 h0]
    rfl

theorem conf_loop {P : Par} {a : List Row} (hg : Good P a) (hT : Small 40 a) (hal : a.length ≤ 5) {K0 : Prop} {Kr : Bool → Prop} (hK : K0) : ∀ (fu i : Nat), i ≤ a.length → a.length - i < fu →
    L.law8_RolloutConfirmsBeforeNext_L2_R a 0 fu i K0 Kr
  | 0, i, _, h => by omega
  | fu + 1, i, hi, h => by
    show L.law8_RolloutConfirmsBeforeNext_L2_b a 0 i _ K0 Kr
    unfold L.law8_RolloutConfirmsBeforeNext_L2_b
    rcases Nat.lt_or_ge i a.length with g | g
    · have hin : inB (i : Int) a.length := ⟨by omega, by omega⟩
      have hl := (hT.at g).1
      have ih := conf_loop hg hT hal hK (Kr := Kr) fu (i + 1) g (by omega)
      rw [show ((i + 1 : Nat) : Int) = (i : Int) + 1 from by omega] at ih
      refine cond_t (by simp; omega) ⟨⟨(List.getD a i ([], (0, (0, 0)))).1.length + 1, ?_⟩⟩
      rw [i64_id (n := (i : Int) + 1) (by omega) (by omega), i64_id (n := (i : Int) - 1) (by omega) (by omega), Int.toNat_natCast]
      have h3 : L.law8_RolloutConfirmsBeforeNext_J3 i a (L.law8_RolloutConfirmsBeforeNext_L2_R a 0 fu (i + 1 : Int) K0 Kr) Kr := conf3_ok hg g ih
      refine conf_inner hg hT hal g ?_ ((List.getD a i ([], (0, (0, 0)))).1.length + 1) 0 (by omega) (by omega)
      refine ⟨hin, fun _ => hin, fun _ => hin, ?_⟩
      by_cases h0 : (List.getD a i ([], (0, (0, 0)))).2.1 = 0
      · rw [show ((List.getD a i ([], (0, (0, 0)))).2.1 != 0) = false from by rw [h0]; rfl]
        exact cond_f rfl ⟨cond_f rfl h3⟩
      · rw [show ((List.getD a i ([], (0, (0, 0)))).2.1 != 0) = true from bne_iff_ne.2 h0]
        have htop := ((hg.row i g).top h0).2
        refine cond_t rfl (has_out hl (fun hm => ?_) ⟨fun _ _ hp => ?_, fun _ _ _ => hin, ?_⟩)
        · have := htop _ hm
          omega
        · have : (i : Int) > 0 := by simpa using hp
          exact ⟨by omega, by omega⟩
        · by_cases hi0 : i = 0
          · rw [decide_eq_false (show ¬ (i : Int) > 0 by omega)]
            exact cond_f rfl (cond_t rfl ⟨cond_f rfl h3⟩)
          · rw [decide_eq_true (show (i : Int) > 0 by omega), show ((i : Int) - 1).toNat = i - 1 from by omega]
            refine cond_t rfl (has_in (hT.at (show i - 1 < a.length by omega)).1 ?_ ⟨cond_f rfl h3⟩)
            have hs := (hg.adj (i - 1) (by omega)).act
            rw [show i - 1 + 1 = i from by omega] at hs
            exact hs h0
    · exact cond_f (by simp; omega) hK

theorem conf_true (n : Int) (P : Par) (es : List Ev) (K : Bool → Prop) (hK : K true) : L.law8_RolloutConfirmsBeforeNext n P.g P.b P.need P.mille es K := by
  refine ⟨run_ok (example_ok (cond_f rfl ?_))⟩
  by_cases h : (run n P es).1 = 0
  · obtain ⟨r1, r2, r3, r4, r5, r6, r7⟩ := run_good h
    rw [h]
    refine ⟨⟨(run n P es).2.2.length + 1, ?_⟩⟩
    exact_mod_cast conf_loop r3 r4 (by omega) (K0 := K true) (Kr := K) hK ((run n P es).2.2.length + 1) 0 (by omega) (by omega)
  · refine ⟨⟨1, cond_f ?_ hK⟩⟩
    rw [beq_eq_false_iff_ne.2 h]; rfl

end Ro

theorem RolloutConfirmsBeforeNext_true (xs : ArgDen [(false, (.int .i64)), (true, (.pair (.int .i64) (.int .i64))), (false, (.int .i64)), (false, (.int .i64)), (false, (.slice (.pair (.int .i64) (.pair (.int .i64) (.pair (.int .i64) (.pair (.int .i64) (.int .i64)))))))]) (_ : WfAll _ xs) (K : Bool → Prop) (hK : K true) : L.law8_RolloutConfirmsBeforeNext xs.1 xs.2.1.1 xs.2.1.2 xs.2.2.1 xs.2.2.2.1 xs.2.2.2.2.1 K :=
  Ro.conf_true xs.1 ⟨xs.2.1.1, xs.2.1.2, xs.2.2.1, xs.2.2.2.1⟩ xs.2.2.2.2.1 K hK

end Go.Proofs.Ytgedmbndmdphdaa

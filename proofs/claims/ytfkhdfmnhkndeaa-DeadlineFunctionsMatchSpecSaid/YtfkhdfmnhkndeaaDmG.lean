/-
  The specification's simulation and what is left of the scripts; which processes are stuck. Conditions: none.
-/
import Derived.Test.YtfkhdfmnhkndeaaDmF
set_option linter.unusedVariables false
set_option linter.unusedSimpArgs false
namespace Go.Proofs.Ytfkhdfmnhkndeaa
open Eng
namespace Dl

abbrev KS := (List Int) → List (List Op) → Hd → Hd → Hd → Hd → Int → Int → Int → Int → Int → Int → Int → Int → Int → Int → Int → Int → Int → Int → Bool → Bool → Bool → Bool → Bool → Int → List Res → Prop

theorem sim_ok {caps : List Int} {sc : List (List Op)} (hv : Valid caps sc) {t : Int} (ht : 0 ≤ t ∧ t ≤ 100000) {K : KS}
    (hK : ∀ (snt : List (List Int)) (m : Pool) (h0 h1 h2 h3 : Hd) (t0 t1 t2 t3 n0 n1 n2 n3 n4 s0 s1 s2 s3 s4 : Int) (e0 e1 e2 e3 e4 : Bool), Rel caps sc (runN caps sc t.toNat) snt m [h0, h1, h2, h3] [t0, t1, t2, t3] [n0, n1, n2, n3, n4] [s0, s1, s2, s3, s4] →
      K caps sc h0 h1 h2 h3 t0 t1 t2 t3 n0 n1 n2 n3 n4 s0 s1 s2 s3 s4 e0 e1 e2 e3 e4 (runN caps sc t.toNat).tick (runN caps sc t.toNat).res) :
    L.ref8_Simulate_h47 caps sc t K := by
  obtain ⟨n, rfl⟩ : ∃ n : Nat, t = n := ⟨t.toNat, by omega⟩
  rw [Int.toNat_natCast] at hK
  refine ⟨⟨⟨n + 1, sim_loop hv (by omega) ?_ (n + 1) 0 _ _ _ _ _ _ _ _ _ _ _ _ _ _ _ _ _ _ _ _ _ _ _ _ _ (by omega) (by omega) (rel_start hv)⟩⟩⟩
  intro a1 a2 a3 a4 a5 a6 a7 a8 a9 a10 a11 a12 a13 a14 a15 a16 a17 a18 a19 a20 a21 a22 a23 a24 a25 hR2
  exact hK a1 a2 a3 a4 a5 a6 a7 a8 a9 a10 a11 a12 a13 a14 a15 a16 a17 a18 a19 a20 a21 a22 a23 a24 a25 hR2

theorem left_loop {caps : List Int} {sc : List (List Op)} (hv : Valid caps sc) {S : St} (hok : Ok caps sc S) {n0 n1 n2 n3 n4 s0 s1 s2 s3 s4 : Int} (hn : ∀ i, i < sc.length → ([n0, n1, n2, n3, n4] : List Int).getD i 0 = S.next.getD i 0) {K : List Int → Prop} (hK : K (restT sc S)) :
    ∀ (fu i : Nat), i ≤ sc.length → sc.length - i < fu → L.ref8_World_Left_h54_L1_R sc n0 n1 n2 n3 n4 s0 s1 s2 s3 s4 fu (i : Int) ((List.range i).map fun i => ((sc.getD i []).length : Int) - S.next.getD i 0) K
  | 0, i, _, h => by omega
  | fu + 1, i, hi, h => by
    show L.ref8_World_Left_h54_L1_b sc n0 n1 n2 n3 n4 s0 s1 s2 s3 s4 (i : Int) _ _ K
    unfold L.ref8_World_Left_h54_L1_b
    have hns := hv.ns
    rcases Nat.lt_or_ge i sc.length with g | g
    · have hnb := hok.nb i g
      have hl8 : (sc.getD i []).length ≤ 8 := hv.len _ (by rw [getD_get _ _ _ g]; exact List.getElem_mem g)
      rw [Int.toNat_natCast, low10 _ _ _ _ _ _ _ _ _ _ (show i < 5 by omega), hn i g, i64_id (n := ((sc.getD i []).length : Int) - S.next.getD i 0) (by omega) (by omega), i64_succ (by omega)]
      refine cond_t (decide_eq_true (by omega)) ⟨⟨by omega, by omega⟩, ⟨by omega, by omega⟩, by omega, ?_, ?_⟩
      · simp only [fits, List.length_map, List.length_range, List.length_singleton]
        omega
      · have ih := left_loop hv hok hn hK (s0 := s0) (s1 := s1) (s2 := s2) (s3 := s3) (s4 := s4) fu (i + 1) g (by omega)
        rw [List.range_succ, List.map_append] at ih
        exact ih
    · obtain rfl : i = sc.length := by omega
      exact cond_f (decide_eq_false (by omega)) hK

theorem left_ok {caps : List Int} {sc : List (List Op)} (hv : Valid caps sc) {S : St} (hok : Ok caps sc S) {h0 h1 h2 h3 : Hd} {t0 t1 t2 t3 n0 n1 n2 n3 n4 s0 s1 s2 s3 s4 : Int} {e0 e1 e2 e3 e4 : Bool} {tick : Int} {res : List Res} (hn : ∀ i, i < sc.length → ([n0, n1, n2, n3, n4] : List Int).getD i 0 = S.next.getD i 0)
    {K : (List Int) → List (List Op) → Hd → Hd → Hd → Hd → Int → Int → Int → Int → Int → Int → Int → Int → Int → Int → Int → Int → Int → Int → Bool → Bool → Bool → Bool → Bool → Int → List Res → List Int → Prop}
    (hK : K caps sc h0 h1 h2 h3 t0 t1 t2 t3 n0 n1 n2 n3 n4 s0 s1 s2 s3 s4 e0 e1 e2 e3 e4 tick res (restT sc S)) :
    L.ref8_World_Left_h54 caps sc h0 h1 h2 h3 t0 t1 t2 t3 n0 n1 n2 n3 n4 s0 s1 s2 s3 s4 e0 e1 e2 e3 e4 tick res K :=
  ⟨⟨⟨sc.length + 1, left_loop hv hok hn hK (sc.length + 1) 0 (by omega) (by omega)⟩⟩⟩

/-- The processes of which something is left. -/
theorem stk_loop {sc : List (List Op)} {S : St} (h5 : sc.length ≤ 5) {K : List Int → Prop} (hK : K (ordA sc S)) :
    ∀ (fu i : Nat), i ≤ sc.length → sc.length - i < fu → L.law8_DeadlineFunctionsMatchSpec_L1_R (restT sc S) fu (i : Int) (((List.range i).filter fun i => decide (S.next.getD i 0 < ((sc.getD i []).length : Int))).map Int.ofNat) K
  | 0, i, _, h => by omega
  | fu + 1, i, hi, h => by
    show L.law8_DeadlineFunctionsMatchSpec_L1_b (restT sc S) (i : Int) _ _ K
    unfold L.law8_DeadlineFunctionsMatchSpec_L1_b
    have hl : (restT sc S).length = sc.length := by simp [restT]
    rcases Nat.lt_or_ge i sc.length with g | g
    · have hg : (restT sc S).getD i 0 = ((sc.getD i []).length : Int) - S.next.getD i 0 := by
        rw [getD_get _ _ _ (by omega)]
        simp [restT]
      rw [Int.toNat_natCast, hg, i64_succ (by omega)]
      have ih := stk_loop h5 hK fu (i + 1) g (by omega)
      rw [List.range_succ, List.filter_append, List.map_append] at ih
      refine cond_t (decide_eq_true (by omega)) ⟨⟨by omega, by omega⟩, ?_⟩
      by_cases hc : S.next.getD i 0 < ((sc.getD i []).length : Int)
      · refine cond_t (decide_eq_true (by omega)) ⟨?_, ?_⟩
        · have : (((List.range i).filter fun i => decide (S.next.getD i 0 < ((sc.getD i []).length : Int))).map Int.ofNat).length ≤ i := by
            rw [List.length_map]
            exact Nat.le_trans (List.length_filter_le _ _) (by simp)
          simp only [fits, List.length_singleton]
          omega
        · rw [List.filter_cons, if_pos (decide_eq_true hc)] at ih
          exact ih
      · refine cond_f (decide_eq_false (by omega)) ?_
        rw [List.filter_cons, if_neg (by simpa using hc)] at ih
        simp only [List.filter_nil, List.map_nil, List.append_nil] at ih
        exact ih
    · obtain rfl : i = sc.length := by omega
      exact cond_f (decide_eq_false (by omega)) hK

theorem stk_ok {sc : List (List Op)} {S : St} (h5 : sc.length ≤ 5) {K : List Int → Prop} (hK : K (ordA sc S)) : L.law8_DeadlineFunctionsMatchSpec_L1 (restT sc S) 0 ([] : List Int) K :=
  ⟨⟨sc.length + 1, stk_loop h5 hK (sc.length + 1) 0 (by omega) (by omega)⟩⟩

end Dl
end Go.Proofs.Ytfkhdfmnhkndeaa

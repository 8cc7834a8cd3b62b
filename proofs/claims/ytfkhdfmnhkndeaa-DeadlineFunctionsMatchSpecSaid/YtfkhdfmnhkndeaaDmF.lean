/-
  The specification's simulation of a number of ticks. Conditions: none.
-/
import Derived.Test.YtfkhdfmnhkndeaaDmE
set_option linter.unusedVariables false
set_option linter.unusedSimpArgs false
namespace Go.Proofs.Ytfkhdfmnhkndeaa
open Eng
namespace Dl

theorem pass_ok {caps : List Int} {sc : List (List Op)} (hv : Valid caps sc) {K : KP} {S : St} {snt : List (List Int)} {m : Pool} {h0 h1 h2 h3 : Hd} {t0 t1 t2 t3 n0 n1 n2 n3 n4 s0 s1 s2 s3 s4 : Int} {e0 e1 e2 e3 e4 : Bool} (hok : Ok caps sc S) (ht : S.tick < 1000000)
    (hR : Rel caps sc S snt m [h0, h1, h2, h3] [t0, t1, t2, t3] [n0, n1, n2, n3, n4] [s0, s1, s2, s3, s4])
    (hK : ∀ (snt : List (List Int)) (m : Pool) (h0 h1 h2 h3 : Hd) (t0 t1 t2 t3 n0 n1 n2 n3 n4 s0 s1 s2 s3 s4 : Int) (e0 e1 e2 e3 e4 : Bool), Rel caps sc (stepT caps sc S) snt m [h0, h1, h2, h3] [t0, t1, t2, t3] [n0, n1, n2, n3, n4] [s0, s1, s2, s3, s4] →
      K m caps sc h0 h1 h2 h3 t0 t1 t2 t3 n0 n1 n2 n3 n4 s0 s1 s2 s3 s4 e0 e1 e2 e3 e4 (stepT caps sc S).tick (stepT caps sc S).res) :
    L.ref8_World_Pass_h53 m caps sc h0 h1 h2 h3 t0 t1 t2 t3 n0 n1 n2 n3 n4 s0 s1 s2 s3 s4 e0 e1 e2 e3 e4 S.tick S.res K := by
  constructor
  unfold L.ref8_World_Pass_h53_B
  have hns := hv.ns
  have htk := hok.tk
  have hr := ord_rdy sc S
  have hb := sortD_sorted S.since (ordA_up sc S)
  have hD : Due sc [n0, n1, n2, n3, n4] [false, false, false, false, false] (sortD S.since (ordA sc S)) := fun q hq => by
    have hnx := hR.nx q hq
    have hf : ([false, false, false, false, false] : List Bool).getD q false = false := by
      match q, (show q < 5 by omega) with
      | 0, _ => rfl
      | 1, _ => rfl
      | 2, _ => rfl
      | 3, _ => rfl
      | 4, _ => rfl
    unfold due
    rw [hf, hnx]
    by_cases hl : S.next.getD q 0 < ((sc.getD q []).length : Int)
    · rw [decide_eq_true hl, decide_eq_true]
      · rfl
      · exact (sortD_perm _ _).mem_iff.2 (ordA_mem.2 ⟨⟨by omega, by omega⟩, by rw [Int.toNat_natCast]; exact hl⟩)
    · rw [decide_eq_false hl, decide_eq_false]
      · rfl
      · intro h
        have := (ordA_mem.1 ((sortD_perm _ _).mem_iff.1 h)).2
        rw [Int.toNat_natCast] at this
        exact hl this
  refine pick_ok hns ?_
  rw [pk_ok hR hr hD hb]
  refine ⟨⟨(sortD S.since (ordA sc S)).length + 1, pass_loop hv _ S snt m _ _ _ _ _ _ _ _ _ _ _ _ _ _ _ _ _ _ _ _ _ _ _ hok (by omega) hr hb hR hD ?_ _ (by omega)⟩⟩
  intro a1 a2 a3 a4 a5 a6 a7 a8 a9 a10 a11 a12 a13 a14 a15 a16 a17 a18 a19 a20 a21 a22 a23 a24 a25 hR2
  rw [i64_id (n := S.tick + 1) (by omega) (by omega)]
  exact hK a1 a2 a3 a4 a5 a6 a7 a8 a9 a10 a11 a12 a13 a14 a15 a16 a17 a18 a19 a20 a21 a22 a23 a24 a25 ⟨hR2.four, hR2.lay, hR2.tb, hR2.qs, hR2.few, hR2.nx, hR2.sn⟩

theorem sim_loop {caps : List Int} {sc : List (List Op)} (hv : Valid caps sc) {t : Nat} (ht : t ≤ 100000) {K : KP}
    (hK : ∀ (snt : List (List Int)) (m : Pool) (h0 h1 h2 h3 : Hd) (t0 t1 t2 t3 n0 n1 n2 n3 n4 s0 s1 s2 s3 s4 : Int) (e0 e1 e2 e3 e4 : Bool), Rel caps sc (runN caps sc t) snt m [h0, h1, h2, h3] [t0, t1, t2, t3] [n0, n1, n2, n3, n4] [s0, s1, s2, s3, s4] →
      K m caps sc h0 h1 h2 h3 t0 t1 t2 t3 n0 n1 n2 n3 n4 s0 s1 s2 s3 s4 e0 e1 e2 e3 e4 (runN caps sc t).tick (runN caps sc t).res) :
    ∀ (fu i : Nat) (snt : List (List Int)) (m : Pool) (h0 h1 h2 h3 : Hd) (t0 t1 t2 t3 n0 n1 n2 n3 n4 s0 s1 s2 s3 s4 : Int) (e0 e1 e2 e3 e4 : Bool), i ≤ t → t - i < fu → Rel caps sc (runN caps sc i) snt m [h0, h1, h2, h3] [t0, t1, t2, t3] [n0, n1, n2, n3, n4] [s0, s1, s2, s3, s4] →
      L.ref8_Simulate_h47_L1_R (t : Int) fu (i : Int) m caps sc h0 h1 h2 h3 t0 t1 t2 t3 n0 n1 n2 n3 n4 s0 s1 s2 s3 s4 e0 e1 e2 e3 e4 (runN caps sc i).tick (runN caps sc i).res K
  | 0, i, _, _, _, _, _, _, _, _, _, _, _, _, _, _, _, _, _, _, _, _, _, _, _, _, _, _, h, _ => by omega
  | fu + 1, i, snt, m, h0, h1, h2, h3, t0, t1, t2, t3, n0, n1, n2, n3, n4, s0, s1, s2, s3, s4, e0, e1, e2, e3, e4, hi, h, hR => by
    show L.ref8_Simulate_h47_L1_b (t : Int) (i : Int) m caps sc h0 h1 h2 h3 t0 t1 t2 t3 n0 n1 n2 n3 n4 s0 s1 s2 s3 s4 e0 e1 e2 e3 e4 (runN caps sc i).tick (runN caps sc i).res _ K
    unfold L.ref8_Simulate_h47_L1_b
    obtain ⟨hok, htk⟩ := runN_ok hv i
    rcases Nat.lt_or_ge i t with g | g
    · refine cond_t (decide_eq_true (by omega)) (pass_ok hv hok (by omega) hR ?_)
      intro a1 a2 a3 a4 a5 a6 a7 a8 a9 a10 a11 a12 a13 a14 a15 a16 a17 a18 a19 a20 a21 a22 a23 a24 a25 hR2
      rw [i64_succ (by omega)]
      exact sim_loop hv ht hK fu (i + 1) a1 a2 a3 a4 a5 a6 a7 a8 a9 a10 a11 a12 a13 a14 a15 a16 a17 a18 a19 a20 a21 a22 a23 a24 a25 g (by omega) hR2
    · obtain rfl : i = t := by omega
      exact cond_f (decide_eq_false (by omega)) (hK _ _ _ _ _ _ _ _ _ _ _ _ _ _ _ _ _ _ _ _ _ _ _ _ _ hR)

theorem rel_start {caps : List Int} {sc : List (List Op)} (hv : Valid caps sc) : Rel caps sc (runN caps sc 0) [[], [], [], []] [] [Hd.nil, Hd.nil, Hd.nil, Hd.nil] [0, 0, 0, 0] [0, 0, 0, 0, 0] [0, 0, 0, 0, 0] := by
  have z4 : ∀ c : Nat, ([0, 0, 0, 0] : List Int).getD c 0 = 0 := fun c => by
    match c with
    | 0 => rfl
    | 1 => rfl
    | 2 => rfl
    | 3 => rfl
    | _ + 4 => rfl
  have z5 : ∀ c : Nat, ([0, 0, 0, 0, 0] : List Int).getD c 0 = 0 := fun c => by
    match c with
    | 0 => rfl
    | 1 => rfl
    | 2 => rfl
    | 3 => rfl
    | 4 => rfl
    | _ + 5 => rfl
  have y4 : ∀ c : Nat, ([[], [], [], []] : List (List Int)).getD c [] = [] := fun c => by
    match c with
    | 0 => rfl
    | 1 => rfl
    | 2 => rfl
    | 3 => rfl
    | _ + 4 => rfl
  refine ⟨rfl, Lay.new [] 4, fun c hc => ?_, fun c hc => ?_, fun c hc => ?_, fun i hi => ?_, fun i hi => ?_⟩
  · rw [z4, y4]; exact ⟨by omega, by simp⟩
  · rw [y4]; exact (rep_get _ _ _ _ hc).trans (by simp)
  · rw [y4]; simp
  · rw [z5]; exact (rep_get _ _ _ _ hi).symm
  · rw [z5]; exact (rep_get _ _ _ _ hi).symm

end Dl
end Go.Proofs.Ytfkhdfmnhkndeaa

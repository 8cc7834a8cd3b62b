/-
  The specification's simulation: whether a process can go on, and with which channel. Conditions: none.
-/
import Derived.Test.YtfkhdfmnhkndeaaDmA
set_option linter.unusedVariables false
set_option linter.unusedSimpArgs false
namespace Go.Proofs.Ytfkhdfmnhkndeaa
open Eng
namespace Dl

theorem pick_ok {sc : List (List Op)} (hsc : sc.length ≤ 5) {m : Pool} {caps : List Int} {h0 h1 h2 h3 : Hd} {t0 t1 t2 t3 n0 n1 n2 n3 n4 s0 s1 s2 s3 s4 : Int} {e0 e1 e2 e3 e4 : Bool} {tick : Int} {res : List Res}
    {K : Int → Pool → (List Int) → List (List Op) → Hd → Hd → Hd → Hd → Int → Int → Int → Int → Int → Int → Int → Int → Int → Int → Int → Int → Int → Int → Bool → Bool → Bool → Bool → Bool → Int → List Res → Prop}
    (hK : K (pk sc [n0, n1, n2, n3, n4] [s0, s1, s2, s3, s4] [e0, e1, e2, e3, e4] sc.length 0 (-1)) m caps sc h0 h1 h2 h3 t0 t1 t2 t3 n0 n1 n2 n3 n4 s0 s1 s2 s3 s4 e0 e1 e2 e3 e4 tick res) :
    L.ref8_World_pick_h51 m caps sc h0 h1 h2 h3 t0 t1 t2 t3 n0 n1 n2 n3 n4 s0 s1 s2 s3 s4 e0 e1 e2 e3 e4 tick res K :=
  ⟨⟨⟨sc.length + 1, pick_loop hsc (sc.length + 1) 0 (-1) (by omega) (by omega) (by omega) hK⟩⟩⟩

/-- The specification's choice, by the machine's. -/
def chR (caps : List Int) (qs : List (List Int)) (o : Op) (w : Int) : Int := bif (tryS caps qs o w).1.2.2 then (tryS caps qs o w).1.1 else -2

theorem low14 (a0 a1 a2 a3 b0 b1 b2 b3 b4 c0 c1 c2 c3 c4 : Int) {p : Nat} (h : p < 4) : ([a0, a1, a2, a3, b0, b1, b2, b3, b4, c0, c1, c2, c3, c4] : List Int).getD p 0 = ([a0, a1, a2, a3] : List Int).getD p 0 := by
  match p, h with
  | 0, _ => rfl
  | 1, _ => rfl
  | 2, _ => rfl
  | 3, _ => rfl

/-- What the specification holds on a channel: what was sent, and how much of it was taken. -/
def Chs (n : Nat) (qs : List (List Int)) (hs : List Hd) (tk : List Int) : Prop := ∀ c, c < n → 0 ≤ tk.getD c 0 ∧ (hs.getD c Hd.nil).n ≤ 1000 ∧ ((qs.getD c []).length : Int) = ((hs.getD c Hd.nil).n : Int) - tk.getD c 0

theorem ch_loop {n : Nat} (hn : n ≤ 4) {qs : List (List Int)} {h0 h1 h2 h3 : Hd} {t0 t1 t2 t3 n0 n1 n2 n3 n4 s0 s1 s2 s3 s4 : Int} (hq : Chs n qs [h0, h1, h2, h3] [t0, t1, t2, t3]) {cs : List Int} (hcs : ∀ c, c ∈ cs → 0 ≤ c ∧ c < n) (hl : cs.length ≤ 1000) {K0 : Prop} {Kr : Int → Prop}
    (g1 : pickC qs cs = none → K0) (g2 : ∀ c, pickC qs cs = some c → Kr c) : ∀ (fu i : Nat), i ≤ cs.length → cs.length - i < fu → pickC qs cs = pickC qs (cs.drop i) → L.ref8_World_Choice_h52_L1_R h0 h1 h2 h3 t0 t1 t2 t3 n0 n1 n2 n3 n4 s0 s1 s2 s3 s4 cs fu i K0 Kr
  | 0, i, _, h, _ => by omega
  | fu + 1, i, hi, h, hp => by
    show L.ref8_World_Choice_h52_L1_b h0 h1 h2 h3 t0 t1 t2 t3 n0 n1 n2 n3 n4 s0 s1 s2 s3 s4 cs i _ K0 Kr
    unfold L.ref8_World_Choice_h52_L1_b
    rcases Nat.lt_or_ge i cs.length with g | g
    · rw [Int.toNat_natCast]
      have hc := hcs (cs.getD i 0) (by rw [getD_get _ _ _ g]; exact List.getElem_mem g)
      rw [List.drop_eq_getElem_cons g, ← getD_get cs i 0 g, pickC_cons] at hp
      generalize ec : cs.getD i 0 = c at hc hp
      have hb : inB c 4 := ⟨hc.1, by omega⟩
      obtain ⟨q1, q2, q3⟩ := hq c.toNat (by omega)
      rw [low14 _ _ _ _ _ _ _ _ _ _ _ _ _ _ (show c.toNat < 4 by omega)]
      refine cond_t (by simp; omega) ⟨⟨by omega, by omega⟩, hb, by omega, hb, by omega, ?_⟩
      by_cases he : qs.getD c.toNat [] = []
      · rw [if_pos he] at hp
        rw [he] at q3
        refine cond_f (decide_eq_false (by simp only [List.length_nil] at q3; omega)) ?_
        rw [i64_succ (by omega)]
        exact ch_loop hn hq hcs hl g1 g2 fu (i + 1) g (by omega) hp
      · rw [if_neg he] at hp
        have : 0 < (qs.getD c.toNat []).length := List.length_pos_iff.2 he
        exact cond_t (decide_eq_true (by omega)) (g2 c hp)
    · obtain rfl : i = cs.length := by omega
      rw [List.drop_length] at hp
      exact cond_f (by simp) (g1 hp)

theorem choice_ok {sc : List (List Op)} (hsc : sc.length ≤ 5) {m : Pool} {caps : List Int} (hcl : caps.length ≤ 4) {qs : List (List Int)} {h0 h1 h2 h3 : Hd} {t0 t1 t2 t3 n0 n1 n2 n3 n4 s0 s1 s2 s3 s4 : Int} {e0 e1 e2 e3 e4 : Bool} {tick : Int} {res : List Res}
    (hq : Chs caps.length qs [h0, h1, h2, h3] [t0, t1, t2, t3]) {p : Int} (hp : 0 ≤ p ∧ p < sc.length) {o : Op} (eo : (sc.getD p.toNat []).getD (([n0, n1, n2, n3, n4] : List Int).getD p.toNat 0).toNat o0 = o)
    (hn : inB (([n0, n1, n2, n3, n4] : List Int).getD p.toNat 0) (sc.getD p.toNat []).length) (ho : OpOk caps.length o) (ht : 0 ≤ tick ∧ tick ≤ 1000000) (hs : 0 ≤ ([s0, s1, s2, s3, s4] : List Int).getD p.toNat 0 ∧ ([s0, s1, s2, s3, s4] : List Int).getD p.toNat 0 ≤ 1000001)
    {K : Int → Pool → (List Int) → List (List Op) → Hd → Hd → Hd → Hd → Int → Int → Int → Int → Int → Int → Int → Int → Int → Int → Int → Int → Int → Int → Bool → Bool → Bool → Bool → Bool → Int → List Res → Prop}
    (hK : K (chR caps qs o (tick - ([s0, s1, s2, s3, s4] : List Int).getD p.toNat 0)) m caps sc h0 h1 h2 h3 t0 t1 t2 t3 n0 n1 n2 n3 n4 s0 s1 s2 s3 s4 e0 e1 e2 e3 e4 tick res) :
    L.ref8_World_Choice_h52 p m caps sc h0 h1 h2 h3 t0 t1 t2 t3 n0 n1 n2 n3 n4 s0 s1 s2 s3 s4 e0 e1 e2 e3 e4 tick res K := by
  constructor
  unfold L.ref8_World_Choice_h52_B
  have b5 : inB p 5 := ⟨hp.1, by omega⟩
  rw [low10 _ _ _ _ _ _ _ _ _ _ (show p.toNat < 5 by omega)]
  refine ⟨⟨hp.1, by omega⟩, b5, by omega, hn, b5, by omega, ?_⟩
  have eo' : (sc.getD p.toNat []).getD (([n0, n1, n2, n3, n4] : List Int).getD p.toNat 0).toNat (0, (0, (0, (0, [])))) = o := eo
  simp only [eo']
  generalize ([s0, s1, s2, s3, s4] : List Int).getD p.toNat 0 = sn at hs hK ⊢
  unfold chR tryS at hK
  by_cases k1 : o.1 = 1
  · simp only [if_pos k1] at hK
    obtain ⟨c1, c2⟩ := ho.chan (by omega)
    obtain ⟨q1, q2, q3⟩ := hq o.2.1.toNat (by omega)
    rw [low14 _ _ _ _ _ _ _ _ _ _ _ _ _ _ (show o.2.1.toNat < 4 by omega)]
    refine cond_t (beq_iff_eq.2 k1) ⟨⟨c1, by omega⟩, by omega, ⟨c1, by omega⟩, by omega, ⟨c1, c2⟩, ?_⟩
    rw [i64_id (by omega) (by omega), ← q3]
    by_cases k2 : ((qs.getD o.2.1.toNat []).length : Int) ≥ caps.getD o.2.1.toNat 0
    · rw [if_pos k2] at hK
      exact cond_f (decide_eq_false (by omega)) hK
    · rw [if_neg k2] at hK
      exact cond_t (decide_eq_true (by omega)) hK
  simp only [if_neg k1] at hK
  refine cond_f (beq_eq_false_iff_ne.2 k1) ?_
  by_cases k2 : o.1 = 2
  · simp only [if_pos k2] at hK
    obtain ⟨c1, c2⟩ := ho.chan (by omega)
    obtain ⟨q1, q2, q3⟩ := hq o.2.1.toNat (by omega)
    rw [low14 _ _ _ _ _ _ _ _ _ _ _ _ _ _ (show o.2.1.toNat < 4 by omega)]
    refine cond_t (beq_iff_eq.2 k2) ⟨⟨c1, by omega⟩, by omega, ⟨c1, by omega⟩, by omega, ?_⟩
    cases eq : qs.getD o.2.1.toNat [] with
    | nil =>
      rw [eq] at hK q3
      exact cond_f (decide_eq_false (by simp only [List.length_nil] at q3; omega)) hK
    | cons x xs =>
      rw [eq] at hK q3
      exact cond_t (decide_eq_true (by simp only [List.length_cons] at q3; omega)) hK
  simp only [if_neg k2] at hK
  refine cond_f (beq_eq_false_iff_ne.2 k2) ?_
  obtain ⟨w1, w2, w3⟩ := ho.wait
  have ew : i64 (tick - sn) = tick - sn := i64_id (by omega) (by omega)
  have hfew := ho.few
  refine ⟨⟨o.2.2.2.2.length + 1, ch_loop hcl hq ho.chans (by omega) ?_ ?_ (o.2.2.2.2.length + 1) 0 (by omega) (by omega) rfl⟩⟩
  · intro hno
    rw [ew]
    by_cases k3 : o.1 = 3
    · simp only [if_pos k3, hno] at hK
      by_cases kw : o.2.2.2.1 ≠ -1 ∧ tick - sn ≥ o.2.2.2.1
      · rw [decide_eq_true kw] at hK
        refine cond_t ?_ hK
        rw [decide_eq_true kw.2, decide_eq_true (show o.2.2.2.1 ≥ 0 by omega)]
        rfl
      · rw [decide_eq_false kw] at hK
        refine cond_f ?_ hK
        by_cases ka : tick - sn ≥ o.2.2.2.1
        · rw [decide_eq_true ka, decide_eq_false (show ¬ o.2.2.2.1 ≥ 0 by omega)]
          rfl
        · rw [decide_eq_false ka]
          rfl
    · simp only [if_neg k3] at hK
      by_cases kw : tick - sn ≥ o.2.2.2.1
      · rw [decide_eq_true kw] at hK
        refine cond_t ?_ hK
        rw [decide_eq_true kw, decide_eq_true (show o.2.2.2.1 ≥ 0 by omega)]
        rfl
      · rw [decide_eq_false kw] at hK
        refine cond_f ?_ hK
        rw [decide_eq_false kw]
        rfl
  · intro c hc
    by_cases k3 : o.1 = 3
    · simp only [if_pos k3, hc] at hK
      obtain ⟨-, he⟩ := pick_some hc
      cases eq : qs.getD c.toNat [] with
      | nil => exact absurd eq he
      | cons x xs =>
        rw [eq] at hK
        exact hK
    · rw [ho.chans0 k3] at hc
      simp [pickC] at hc

end Dl
end Go.Proofs.Ytfkhdfmnhkndeaa

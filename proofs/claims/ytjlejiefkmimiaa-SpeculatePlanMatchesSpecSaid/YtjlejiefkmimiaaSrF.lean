/-
  Speculation: plans are the best runs, and the law of plans as a plain law. Conditions: none.
-/
import Derived.Test.YtjlejiefkmimiaaSrE
import Derived.Test.YtjlejiefkmimiaaEngV
set_option linter.unusedVariables false
set_option linter.unusedSimpArgs false
namespace Go.Proofs.Ytjlejiefkmimiaa
open Eng Sp
namespace Sr

/-- The runs that have a chance. -/
def pos (p : List Int) (l : List R) : List R := l.filter fun x => decide (0 < ky p x)

theorem pos_app (p : List Int) (a b : List R) : pos p (a ++ b) = pos p a ++ pos p b := List.filter_append ..
theorem pos_len (p : List Int) (a : List R) : (pos p a).length ≤ a.length := List.length_filter_le _ _

theorem row_len (k : Nat) : (row k).length = 2 ^ k := by simp [row]

theorem all_le {k n : Nat} (hk : k < n) (hn : n ≤ 8) : (all k).length + 2 ^ k ≤ 255 := by
  have h := (all_pre (show k + 1 ≤ n by omega)).length_le
  rw [all, List.length_append, row_len] at h
  have := all_len n hn
  omega

theorem Plan_inner {p out : List _} {k : Nat} (hk : k < 8) (hp : p.length ≤ 1000) (ho : out.length + 2 ^ k ≤ 255) {K : List R → Prop} (hK : K (out ++ pos p (row k))) : ∀ (fu w : Nat), w ≤ 2 ^ k → 2 ^ k - w < fu →
    L.speculate_Plan_h19_L2_R (k : Int) ((2 ^ k : Nat) : Int) p fu (w : Int) (out ++ pos p ((List.range w).map (rn k))) K
  | 0, w, _, h => by omega
  | fu + 1, w, hw, hfu => by
    show L.speculate_Plan_h19_L2_b _ _ _ _ _ _ _
    unfold L.speculate_Plan_h19_L2_b
    have h128 := pow8 hk
    rcases Nat.lt_or_ge w (2 ^ k) with g | g
    · refine cond_t (by simp only [decide_eq_true_eq]; omega) (members_ok ?_)
      have hm := mbs_all k hk w g
      have hl := ro_len k 0 w
      rw [hm]
      refine chance_ok hp (by omega) ?_
      have es : i64 ((w : Int) + 1) = ((w + 1 : Nat) : Int) := by rw [i64_id (by omega) (by omega)]; omega
      rw [es]
      have ih := Plan_inner hk hp ho hK fu (w + 1) g (by omega)
      rw [List.range_succ, List.map_append, pos_app] at ih
      have hpl := pos_len p ((List.range w).map (rn k))
      rw [List.length_map, List.length_range] at hpl
      have ek : chs (k : Int) (ro k 0 w) 0 p 1 = ky p (rn k w) := rfl
      rw [ek]
      by_cases hc : 0 < ky p (rn k w)
      · refine cond_t (decide_eq_true hc) ⟨fits_of (by rw [List.length_append]; simp; omega), ?_⟩
        have e : pos p (List.map (rn k) [w]) = [((k : Int), ro k 0 w)] := by
          show List.filter (fun x => decide (0 < ky p x)) [rn k w] = [rn k w]
          simp [hc]
        rw [e, ← List.append_assoc] at ih
        exact ih
      · refine cond_f (decide_eq_false hc) ?_
        have e : pos p (List.map (rn k) [w]) = [] := by
          show List.filter (fun x => decide (0 < ky p x)) [rn k w] = []
          simp [hc]
        rw [e, List.append_nil] at ih
        exact ih
    · obtain rfl : w = 2 ^ k := by omega
      exact cond_f (by simp) hK

theorem Plan_outer {p : List Int} (hp : p.length ≤ 8) {K : List R → Prop} (hK : K (pos p (all p.length))) : ∀ (fu k : Nat), k ≤ p.length → p.length - k < fu → L.speculate_Plan_h19_L1_R (p.length : Int) p fu (k : Int) (pos p (all k)) K
  | 0, k, _, h => by omega
  | fu + 1, k, hk, hfu => by
    show L.speculate_Plan_h19_L1_b _ _ _ _ _ _
    unfold L.speculate_Plan_h19_L1_b
    rcases Nat.lt_or_ge k p.length with g | g
    · refine cond_t (by simp; omega) ⟨by omega, ?_⟩
      rw [shl_ok (by omega) (by omega), Int.toNat_natCast]
      have hal := all_le g hp
      have hpl := pos_len p (all k)
      have es : i64 ((k : Int) + 1) = ((k + 1 : Nat) : Int) := by rw [i64_id (by omega) (by omega)]; omega
      refine ⟨2 ^ k + 1, ?_⟩
      have := Plan_inner (p := p) (out := pos p (all k)) (k := k) (by omega) (by omega) (by omega) (K := fun out1 => L.speculate_Plan_h19_L1_R (p.length : Int) p fu (i64 ((k : Int) + 1)) out1 K) ?_ (2 ^ k + 1) 0 (Nat.zero_le _) (Nat.lt_succ_of_le (Nat.sub_le _ _))
      · simpa [pos] using this
      · rw [es]
        have ih := Plan_outer hp hK fu (k + 1) g (by omega)
        rw [all, pos_app] at ih
        exact ih
    · obtain rfl : k = p.length := by omega
      exact cond_f (by simp) hK

theorem fin_all {p : List Int} (hp : p.length ≤ 8) : Fin p (pos p (all p.length)) := by
  have h1 := pos_len p (all p.length)
  have h2 := all_len _ hp
  refine ⟨by omega, by omega, fun x hx => ?_⟩
  obtain ⟨k, w, hk, hw, rfl⟩ := all_mem (List.mem_filter.1 hx).1
  have := (rn_sm (k := k) (w := w) (by omega)).1
  omega

/-- A plan's order. -/
structure Sd (p : List Int) (S : List R) : Prop where
  perm : S.Perm (pos p (all p.length))
  pw : S.Pairwise (Bf p)

theorem Plan_ok {p : List Int} (hf : pf p = (0, 0)) {budget : Int} (hb : 0 ≤ budget ∧ budget ≤ 16) {K : Int → Int → List R → Prop} (hK : ∀ S, Sd p S → K 0 0 (S.take budget.toNat)) : L.speculate_Plan_h19 p budget K := by
  have hp := (pf_pc hf).1
  constructor
  unfold L.speculate_Plan_h19_B
  refine checkPercents_ok ?_
  rw [hf]
  refine cond_f (by decide) (cond_f (by simp; omega) ⟨p.length + 1, ?_⟩)
  refine Plan_outer hp ?_ (p.length + 1) 0 (by omega) (by omega)
  refine sort_ok (Bf_ord p) (fin_all hp) ?_ fun T hT hTw => ?_
  · exact ((all_pw hp).filter _).imp fun h => Lx_ah h
  · have hl : T.length ≤ 1000 := ((fin_all hp).perm hT).n
    have ha : 0 ≤ amn budget (T.length : Int) ∧ amn budget (T.length : Int) ≤ (T.length : Int) := by unfold amn; split <;> omega
    have et : T.take (amn budget (T.length : Int)).toNat = T.take budget.toNat := by
      unfold amn
      split
      · rw [Int.toNat_natCast, List.take_length, List.take_of_length_le (by omega)]
      · rfl
    refine ⟨ha, cloneT_ok ?_ ?_⟩
    · rw [List.length_take, List.length_drop]; omega
    · rw [List.drop_zero, et]
      exact hK T ⟨hT, hTw⟩

theorem Plan_bad {p : List Int} (hf : (pf p).1 ≠ 0) {budget : Int} {K : Int → Int → List R → Prop} (hK : K (pf p).1 (pf p).2 []) : L.speculate_Plan_h19 p budget K := by
  constructor
  unfold L.speculate_Plan_h19_B
  refine checkPercents_ok (cond_t ?_ hK)
  rw [beq_eq_false_iff_ne.2 hf]
  rfl

theorem Plan_range {p : List Int} (hf : pf p = (0, 0)) {budget : Int} (hb : budget < 0 ∨ 16 < budget) {K : Int → Int → List R → Prop} (hK : K 3 (-2) []) : L.speculate_Plan_h19 p budget K := by
  constructor
  unfold L.speculate_Plan_h19_B
  refine checkPercents_ok ?_
  rw [hf]
  refine cond_f (by decide) (cond_t ?_ hK)
  rcases hb with h | h
  · rw [decide_eq_true h]; rfl
  · rw [decide_eq_true (p := budget > 16) h]; cases decide (budget < 0) <;> rfl

theorem Chance_bad {l : List Int} {last : Int} {w : List Int} (hf : (pf l).1 ≠ 0) {K : Int → Int → Int → Prop} (hK : K 0 (pf l).1 (pf l).2) : L.speculate_Chance l last w K := by
  constructor
  unfold L.speculate_Chance_B
  refine checkPercents_ok (cond_t ?_ hK)
  rw [beq_eq_false_iff_ne.2 hf]
  rfl

theorem Chance_code {l : List Int} {last : Int} {w : List Int} (hl : pf l = (0, 0)) (hw : big w.length) (hc : rcode l.length last w ≠ 0) {K : Int → Int → Int → Prop} (hK : K 0 (rcode l.length last w) (-2)) : L.speculate_Chance l last w K := by
  constructor
  unfold L.speculate_Chance_B
  refine checkPercents_ok ?_
  rw [hl]
  exact cond_f (by decide) (checkRun_ok hw (cond_t (bne_iff_ne.2 hc) hK))

/-- How many of the runs of a list are better than the last of a plan. -/
def bet (p : List Int) (l A : List R) : Nat := if l.length = 0 then 0 else ((pos p A).filter fun x => decide (Bf p x (l.getD (l.length - 1) r0))).length

theorem bet_len (p : List Int) (l A : List R) : bet p l A ≤ A.length := by
  unfold bet
  split
  · omega
  · exact Nat.le_trans (List.length_filter_le _ _) (pos_len p A)

theorem bet_app (p : List Int) (l A C : List R) : bet p l (A ++ C) = bet p l A + bet p l C := by
  unfold bet
  split
  · rfl
  · rw [pos_app, List.filter_append, List.length_append]

theorem law_inner {p : List Int} (hf : pf p = (0, 0)) {k : Nat} (hk : k < p.length) {l : List R} (hl : l.length ≤ 1000) (hs : ∀ x, x ∈ l → Sm x.2) {K : Int → Int → Prop}
    (hK : K ((pos p (all (k + 1))).length : Nat) (bet p l (all (k + 1)) : Nat)) : ∀ (fu w : Nat), w ≤ 2 ^ k → 2 ^ k - w < fu →
    L.law8_SpeculatePlanMatchesSpec_L2_R p (k : Int) l fu ((pos p (all k ++ (List.range w).map (rn k))).length : Nat) (bet p l (all k ++ (List.range w).map (rn k)) : Nat) (w : Int) K
  | 0, w, _, h => by omega
  | fu + 1, w, hw, hfu => by
    show L.law8_SpeculatePlanMatchesSpec_L2_b _ _ _ _ _ _ _ _
    unfold L.law8_SpeculatePlanMatchesSpec_L2_b
    obtain ⟨hp, hpc⟩ := pf_pc hf
    have h128 := pow8 (show k < 8 by omega)
    have hal := all_le hk hp
    refine ⟨by omega, ?_⟩
    rw [shl_ok (by omega) (by omega), Int.toNat_natCast]
    rcases Nat.lt_or_ge w (2 ^ k) with g | g
    · have hro := ro_len k 0 w
      refine cond_t (by simp only [decide_eq_true_eq]; omega) (RunOf_ok (by omega) (by omega) (by omega) (RChance_ok (by unfold big; rw [Int.toNat_natCast]; omega) (by omega) ?_))
      rw [Int.toNat_natCast]
      have ek : chs (k : Int) (ro k 0 w) 0 p 1 = ky p (rn k w) := rfl
      have hk0 : 0 ≤ ky p (rn k w) := by
        obtain ⟨g1, g2, g3⟩ := chance_F (l := p) (last := (k : Int)) (w := w) hp hpc (by omega)
        rw [Int.toNat_natCast] at g1 g2
        rw [← ek, g1]
        exact g2
      rw [ek]
      have es : i64 ((w : Int) + 1) = ((w + 1 : Nat) : Int) := by rw [i64_id (by omega) (by omega)]; omega
      rw [es]
      have ih := law_inner hf hk hl hs hK fu (w + 1) g (by omega)
      rw [List.range_succ, List.map_append, ← List.append_assoc, pos_app, bet_app] at ih
      have hpl := pos_len p (all k ++ (List.range w).map (rn k))
      have hbl := bet_len p l (all k ++ (List.range w).map (rn k))
      rw [List.length_append, List.length_map, List.length_range] at hpl hbl
      by_cases hc : 0 < ky p (rn k w)
      · have e : pos p (List.map (rn k) [w]) = [rn k w] := by
          show List.filter (fun x => decide (0 < ky p x)) [rn k w] = [rn k w]
          simp [hc]
        rw [e, List.length_append] at ih
        refine cond_f (by simp; omega) ?_
        have ep : i64 (((pos p (all k ++ (List.range w).map (rn k))).length : Nat) + 1) = (((pos p (all k ++ (List.range w).map (rn k))).length + [rn k w].length : Nat) : Int) := by rw [i64_id (by omega) (by omega)]; simp
        rw [ep]
        by_cases h0 : l.length = 0
        · have e2 : bet p l (List.map (rn k) [w]) = 0 := by unfold bet; rw [if_pos h0]
          rw [e2, Nat.add_zero] at ih
          have d0 : decide ((l.length : Int) > 0) = false := decide_eq_false (by omega)
          rw [d0]
          exact ⟨fun h => absurd h (by decide), cond_f rfl ih⟩
        · have el : i64 ((l.length : Int) - 1) = ((l.length - 1 : Nat) : Int) := by rw [i64_id (by omega) (by omega)]; omega
          have d1 : decide ((l.length : Int) > 0) = true := decide_eq_true (by omega)
          rw [d1, el, Int.toNat_natCast]
          have hm : l.getD (l.length - 1) r0 ∈ l := getD_mem r0 (by omega)
          refine ⟨fun _ => ⟨by omega, by omega⟩, cond_t rfl (Before_ok (x := rn k w) (y := l.getD (l.length - 1) r0) (by omega) (rn_sm (by omega)) (hs _ hm) ?_)⟩
          have e2 : bet p l (List.map (rn k) [w]) = if Bf p (rn k w) (l.getD (l.length - 1) r0) then 1 else 0 := by
            unfold bet
            rw [if_neg h0, e]
            have aux : ∀ z : R, (List.filter (fun x => decide (Bf p x z)) [rn k w]).length = if Bf p (rn k w) z then 1 else 0 := fun z => by
              by_cases h : Bf p (rn k w) z <;> simp [h]
            exact aux _
          rw [e2] at ih
          by_cases hb : Bf p (rn k w) (l.getD (l.length - 1) r0)
          · rw [if_pos hb] at ih
            refine cond_t (decide_eq_true hb) ?_
            have eb : i64 ((bet p l (all k ++ (List.range w).map (rn k)) : Nat) + 1) = ((bet p l (all k ++ (List.range w).map (rn k)) + 1 : Nat) : Int) := by rw [i64_id (by omega) (by omega)]; omega
            rw [eb]
            exact ih
          · rw [if_neg hb, Nat.add_zero] at ih
            exact cond_f (decide_eq_false hb) ih
      · have e : pos p (List.map (rn k) [w]) = [] := by
          show List.filter (fun x => decide (0 < ky p x)) [rn k w] = []
          simp [hc]
        have e2 : bet p l (List.map (rn k) [w]) = 0 := by
          unfold bet
          rw [e]
          simp
        rw [e, e2, List.append_nil, Nat.add_zero] at ih
        exact cond_t (by rw [beq_iff_eq]; omega) ih
    · obtain rfl : w = 2 ^ k := by omega
      exact cond_f (by simp) hK

theorem law_outer {p : List Int} (hf : pf p = (0, 0)) {l : List R} (hl : l.length ≤ 1000) (hs : ∀ x, x ∈ l → Sm x.2) {K : Int → Int → Prop}
    (hK : K ((pos p (all p.length)).length : Nat) (bet p l (all p.length) : Nat)) : ∀ (fu k : Nat), k ≤ p.length → p.length - k < fu →
    L.law8_SpeculatePlanMatchesSpec_L1_R p l fu ((pos p (all k)).length : Nat) (bet p l (all k) : Nat) (k : Int) K
  | 0, k, _, h => by omega
  | fu + 1, k, hk, hfu => by
    show L.law8_SpeculatePlanMatchesSpec_L1_b _ _ _ _ _ _ _
    unfold L.law8_SpeculatePlanMatchesSpec_L1_b
    have hp := (pf_pc hf).1
    rcases Nat.lt_or_ge k p.length with g | g
    · refine cond_t (by simp; omega) ⟨2 ^ k + 1, ?_⟩
      have es : i64 ((k : Int) + 1) = ((k + 1 : Nat) : Int) := by rw [i64_id (by omega) (by omega)]; omega
      have := law_inner hf g hl hs (K := fun positive1 better1 => L.law8_SpeculatePlanMatchesSpec_L1_R p l fu positive1 better1 (i64 ((k : Int) + 1)) K) (by rw [es]; exact law_outer hf hl hs hK fu (k + 1) g (by omega)) (2 ^ k + 1) 0 (Nat.zero_le _) (Nat.lt_succ_of_le (Nat.sub_le _ _))
      simpa using this
    · obtain rfl : k = p.length := by omega
      exact cond_f (by simp) hK

theorem law_each {p : List Int} (hf : pf p = (0, 0)) {l : List R} (hl : l.length ≤ 1000) (hs : ∀ x, x ∈ l → ∃ k w, k < p.length ∧ w < 2 ^ k ∧ x = rn k w) (hps : ∀ x, x ∈ l → 0 < ky p x) (hw : l.Pairwise (Bf p)) {K0 : Prop} {Kr : Bool → Prop} (hK : K0) : ∀ (fu i : Nat), i ≤ l.length → l.length - i < fu →
    L.law8_SpeculatePlanMatchesSpec_L3_R p l fu (i : Int) K0 Kr
  | 0, i, _, h => by omega
  | fu + 1, i, hi, h => by
    show L.law8_SpeculatePlanMatchesSpec_L3_b _ _ _ _ _ _
    unfold L.law8_SpeculatePlanMatchesSpec_L3_b
    have hp := (pf_pc hf).1
    rcases Nat.lt_or_ge i l.length with g | g
    · have bi : inB (i : Int) l.length := ⟨by omega, by omega⟩
      have hm := getD_mem r0 g
      obtain ⟨k, w, hk, hwk, hx⟩ := hs _ hm
      have hpx := hps _ hm
      have sx : Sm (l.getD i r0).2 := by rw [hx]; exact rn_sm (by omega)
      have bx : big (l.getD i r0).2.length := by have := sx.1; unfold big; omega
      have hcode : rcode p.length (l.getD i r0).1 (l.getD i r0).2 = 0 := by
        rw [hx]
        have := rcode_ro (n := (p.length : Int)) (last := (k : Int)) (by omega) (by omega) w
        rw [Int.toNat_natCast] at this
        exact this
      have es : i64 ((i : Int) + 1) = ((i + 1 : Nat) : Int) := by rw [i64_id (by omega) (by omega)]; omega
      have ih := law_each hf hl hs hps hw (Kr := Kr) hK fu (i + 1) g (by omega)
      refine cond_t (by simp; omega) ⟨bi, ?_⟩
      rw [Int.toNat_natCast, es]
      refine RunCode_ok bx ?_
      rw [hcode]
      refine ⟨fun _ => bi, cond_t rfl (RChance_ok bx (by omega) ?_)⟩
      have ek : chs (l.getD i r0).1 (l.getD i r0).2 0 p 1 = ky p (l.getD i r0) := rfl
      rw [ek]
      have d0 : (ky p (l.getD i r0) == 0) = false := beq_eq_false_iff_ne.2 (by omega)
      rw [d0]
      by_cases h0 : 0 < i
      · have ei : i64 ((i : Int) - 1) = ((i - 1 : Nat) : Int) := by rw [i64_id (by omega) (by omega)]; omega
        have d1 : decide ((i : Int) > 0) = true := by simp; omega
        rw [d1, ei, Int.toNat_natCast]
        have bi1 : inB ((i - 1 : Nat) : Int) l.length := ⟨by omega, by omega⟩
        have hm1 := getD_mem r0 (show i - 1 < l.length by omega)
        obtain ⟨k1, w1, hk1, _, hx1⟩ := hs _ hm1
        have sx1 : Sm (l.getD (i - 1) r0).2 := by rw [hx1]; exact rn_sm (by omega)
        refine ⟨fun _ _ => bi1, fun _ _ => bi, cond_t rfl (Before_ok (x := l.getD (i - 1) r0) (y := l.getD i r0) (by omega) sx1 sx ?_)⟩
        have hbf : Bf p (l.getD (i - 1) r0) (l.getD i r0) := by
          have e1 : l.getD (i - 1) r0 = l[i - 1] := by rw [List.getD_eq_getElem?_getD, List.getElem?_eq_getElem (by omega)]; rfl
          have e2 : l.getD i r0 = l[i] := by rw [List.getD_eq_getElem?_getD, List.getElem?_eq_getElem g]; rfl
          rw [e1, e2]
          exact List.pairwise_iff_getElem.1 hw (i - 1) i (by omega) g (by omega)
        rw [decide_eq_true hbf]
        exact cond_f rfl ih
      · have d1 : decide ((i : Int) > 0) = false := by simp; omega
        rw [d1]
        exact ⟨fun _ h => absurd h (by decide), fun _ h => absurd h (by decide), cond_f rfl (cond_t rfl ih)⟩
    · exact cond_f (by simp; omega) hK

theorem bet_take {p : List Int} {S : List R} (hS : Sd p S) {b : Nat} (h : 0 < (S.take b).length) : bet p (S.take b) (all p.length) = (S.take b).length - 1 := by
  unfold bet
  rw [if_neg (by omega)]
  obtain ⟨m, hm⟩ : ∃ m, m = (S.take b).length := ⟨_, rfl⟩
  rw [← hm] at h ⊢
  rw [List.length_take] at hm
  obtain ⟨x, hx⟩ := get_some (l := S) (i := m - 1) (by omega)
  have el : (S.take b).getD (m - 1) r0 = x := by
    rw [List.getD_eq_getElem?_getD, List.getElem?_take_of_lt (by omega), hx]
    rfl
  rw [el, ← (hS.perm.filter _).length_eq]
  have e : S = S.take (m - 1) ++ x :: S.drop m := by
    have h1 := (List.getElem?_eq_some_iff.1 hx)
    obtain ⟨h1, h2⟩ := h1
    have h3 := List.drop_eq_getElem_cons h1
    rw [h2, show m - 1 + 1 = m by omega] at h3
    rw [← h3, List.take_append_drop]
  have hw := hS.pw
  rw [e] at hw
  obtain ⟨w1, w2, w3⟩ := List.pairwise_append.1 hw
  obtain ⟨w4, w5⟩ := List.pairwise_cons.1 w2
  rw [e, List.filter_append, List.filter_eq_self.2 fun y hy => decide_eq_true (w3 y hy x (by simp)), List.filter_cons_of_neg (by simpa using Bf_irr), List.filter_eq_nil_iff.2 fun y hy => by simpa using Bf_asym (w4 y hy)]
  rw [List.append_nil, List.length_take]
  omega

theorem J3_ok {p : List Int} (hf : pf p = (0, 0)) {budget : Int} (hb : 0 ≤ budget ∧ budget ≤ 16) {S : List R} (hS : Sd p S) {K : Bool → Prop} (hK : K true) : L.law8_SpeculatePlanMatchesSpec_J3 p budget (S.take budget.toNat) 0 0 0 0 K := by
  constructor
  unfold L.law8_SpeculatePlanMatchesSpec_J3_B
  have hp := (pf_pc hf).1
  obtain ⟨l, hl⟩ : ∃ l, l = S.take budget.toNat := ⟨_, rfl⟩
  have hlen : l.length = min budget.toNat S.length := by rw [hl, List.length_take]
  have hmem : ∀ x, x ∈ l → x ∈ pos p (all p.length) := fun x hx => hS.perm.mem_iff.1 (List.mem_of_mem_take (hl ▸ hx))
  have hrn : ∀ x, x ∈ l → ∃ k w, k < p.length ∧ w < 2 ^ k ∧ x = rn k w := fun x hx => all_mem (List.mem_filter.1 (hmem x hx)).1
  have hsm : ∀ x, x ∈ l → Sm x.2 := fun x hx => by
    obtain ⟨k, w, hk, _, rfl⟩ := hrn x hx
    exact rn_sm (by omega)
  have hpos : ∀ x, x ∈ l → 0 < ky p x := fun x hx => of_decide_eq_true (List.mem_filter.1 (hmem x hx)).2
  have hpw : l.Pairwise (Bf p) := by rw [hl]; exact hS.pw.sublist (List.take_sublist _ _)
  have hSl : S.length = (pos p (all p.length)).length := hS.perm.length_eq
  have hbt : 0 < l.length → bet p l (all p.length) = l.length - 1 := fun h => by
    rw [hl] at h ⊢
    exact bet_take hS h
  rw [← hl]
  refine cond_f rfl (cond_f (by simp; omega) ⟨p.length + 1, ?_⟩)
  have e0 : bet p l (all 0) = 0 := by unfold bet; split <;> rfl
  have hlaw := fun (K' : Int → Int → Prop) hK' => law_outer (K := K') hf (l := l) (by omega) hsm hK' (p.length + 1) 0 (by omega) (by omega)
  rw [e0] at hlaw
  refine hlaw _ ?_
  refine ⟨l.length + 1, law_each hf (by omega) hrn hpos hpw ?_ (l.length + 1) 0 (by omega) (by omega)⟩
  have e1 : ((l.length : Int) == amn budget ((pos p (all p.length)).length : Nat)) = true := by
    rw [beq_iff_eq]
    unfold amn
    split <;> omega
  rw [e1]
  have e2 : (bif ((l.length : Int) == 0) then true else (((bet p l (all p.length) : Nat) : Int) == (i64 ((l.length : Int) - 1)))) = true := by
    by_cases h : l.length = 0
    · have : ((l.length : Int) == 0) = true := by rw [beq_iff_eq]; omega
      rw [this]; rfl
    · have : ((l.length : Int) == 0) = false := by rw [beq_eq_false_iff_ne]; omega
      rw [this, hbt (by omega), i64_id (by omega) (by omega)]
      show (_ == _) = true
      rw [beq_iff_eq]
      omega
  rw [e2]
  exact hK

theorem J3_bad {p : List Int} {budget : Int} {c i : Int} (hc : c ≠ 0) {K : Bool → Prop} (hK : K true) : L.law8_SpeculatePlanMatchesSpec_J3 p budget [] c i c i K := by
  constructor
  unfold L.law8_SpeculatePlanMatchesSpec_J3_B
  refine cond_t (bne_iff_ne.2 hc) ?_
  have : (bif ((c == c) && ((i == i) && true)) then ((([] : List R).length : Int) == 0) else false) = true := by simp
  rw [this]
  exact hK

/-- The part of the law that looks at a chance. -/
theorem J2_ok {p : List Int} (hf : pf p = (0, 0)) {budget : Int} {last : Int} {w : List Int} (hw : big w.length) {l : List R} {e22 e23 w2 w3 : Int} {Kr : Bool → Int → Int → Prop} {c e1 e11 v v1 : Int}
    (hc : (rcode p.length last w ≠ 0 ∧ c = 0 ∧ e1 = rcode p.length last w ∧ e11 = -2 ∧ v = rcode p.length last w ∧ v1 = -2) ∨ (rcode p.length last w = 0 ∧ c = chs last w 0 p 1 ∧ e1 = 0 ∧ e11 = 0 ∧ v = 0 ∧ v1 = 0))
    (h3 : L.law8_SpeculatePlanMatchesSpec_J3 p budget l e22 e23 w2 w3 (fun r9 => Kr r9 w2 w3)) : L.law8_SpeculatePlanMatchesSpec_J2 p budget c last w e1 e11 l e22 e23 v v1 w2 w3 Kr := by
  constructor
  unfold L.law8_SpeculatePlanMatchesSpec_J2_B
  have hp := (pf_pc hf).1
  rcases hc with ⟨h, rfl, rfl, rfl, rfl, rfl⟩ | ⟨h, rfl, rfl, rfl, rfl, rfl⟩
  · have d : (rcode p.length last w != 0) = true := bne_iff_ne.2 h
    have d' : (rcode p.length last w == 0) = false := beq_eq_false_iff_ne.2 h
    refine cond_f (by rw [d]; simp) (cond_f d' ⟨cond_f rfl h3⟩)
  · refine cond_f rfl (cond_t rfl (cond_f rfl (RChance_ok hw (by omega) ⟨cond_f ?_ h3⟩)))
    simp

theorem plan_true {p : List Int} {last : Int} {w : List Int} {budget : Int} (hw : big w.length) (K : Bool → Prop) (hK : K true) : L.law8_SpeculatePlanMatchesSpec p last w budget K := by
  constructor
  unfold L.law8_SpeculatePlanMatchesSpec_B
  rcases pf_cases p with hf | hf
  · have hp := (pf_pc hf).1
    have chance : ∀ K' : Int → Int → Int → Prop, (∀ c e1 e11 v v1, ((rcode p.length last w ≠ 0 ∧ c = 0 ∧ e1 = rcode p.length last w ∧ e11 = -2 ∧ v = rcode p.length last w ∧ v1 = -2) ∨ (rcode p.length last w = 0 ∧ c = chs last w 0 p 1 ∧ e1 = 0 ∧ e11 = 0 ∧ v = 0 ∧ v1 = 0)) → K' c e1 e11) → L.speculate_Chance p last w K' := by
      intro K' h
      by_cases hc : rcode p.length last w = 0
      · exact Chance_ok hf hp hw hc (h _ _ _ 0 0 (.inr ⟨hc, rfl, rfl, rfl, rfl, rfl⟩))
      · exact Chance_code hf hw hc (h _ _ _ _ _ (.inl ⟨hc, rfl, rfl, rfl, rfl, rfl⟩))
    have plan : ∀ K' : Int → Int → List R → Prop, (∀ e22 e23 l, (L.law8_SpeculatePlanMatchesSpec_J3 p budget l e22 e23 e22 e23 K ∧ (e22 = if budget < 0 ∨ 16 < budget then 3 else 0) ∧ (e23 = if budget < 0 ∨ 16 < budget then -2 else 0)) → K' e22 e23 l) → L.speculate_Plan_h19 p budget K' := by
      intro K' h
      by_cases hb : budget < 0 ∨ 16 < budget
      · exact Plan_range hf hb (h 3 (-2) [] ⟨J3_bad (by decide) hK, by rw [if_pos hb], by rw [if_pos hb]⟩)
      · exact Plan_ok hf (by omega) fun S hS => h 0 0 _ ⟨J3_ok hf (by omega) hS hK, by rw [if_neg hb], by rw [if_neg hb]⟩
    refine chance _ fun c e1 e11 v v1 hc => plan _ fun e22 e23 l ⟨h3, q1, q2⟩ => example_ok _ (cond_f rfl (PercentsFault_ok ?_))
    rw [hf]
    refine cond_t rfl (RunCode_ok hw ?_)
    have j1 : ∀ v v1, ((rcode p.length last w ≠ 0 ∧ c = 0 ∧ e1 = rcode p.length last w ∧ e11 = -2 ∧ v = rcode p.length last w ∧ v1 = -2) ∨ (rcode p.length last w = 0 ∧ c = chs last w 0 p 1 ∧ e1 = 0 ∧ e11 = 0 ∧ v = 0 ∧ v1 = 0)) → L.law8_SpeculatePlanMatchesSpec_J1 p budget c last w e1 e11 l e22 e23 v v1 0 0 K := by
      intro v v1 hc
      constructor
      unfold L.law8_SpeculatePlanMatchesSpec_J1_B
      by_cases hb : budget < 0 ∨ 16 < budget
      · rw [if_pos hb] at q1 q2
        subst q1 q2
        refine cond_t ?_ (Fault_ok (J2_ok hf hw hc h3))
        rcases hb with h | h
        · rw [decide_eq_true h]; rfl
        · rw [decide_eq_true (p := budget > 16) h]; cases decide (budget < 0) <;> rfl
      · rw [if_neg hb] at q1 q2
        subst q1 q2
        exact cond_f (by simp; omega) (J2_ok hf hw hc h3)
    constructor
    unfold L.law8_SpeculatePlanMatchesSpec_J5_B
    by_cases h : rcode p.length last w = 0
    · refine cond_f (by rw [h]; rfl) (j1 0 0 ?_)
      rcases hc with hc | hc
      · exact absurd h hc.1
      · exact .inr ⟨hc.1, hc.2.1, hc.2.2.1, hc.2.2.2.1, rfl, rfl⟩
    · refine cond_t (by simpa using h) (RunCode_ok hw (Fault_ok (j1 _ _ ?_)))
      rcases hc with hc | hc
      · exact .inl ⟨hc.1, hc.2.1, hc.2.2.1, hc.2.2.2.1, rfl, rfl⟩
      · exact absurd hc.1 h
  · refine Chance_bad hf (Plan_bad hf (example_ok _ (cond_f rfl (PercentsFault_ok (cond_f (beq_eq_false_iff_ne.2 hf) ⟨cond_f rfl ⟨cond_f ?_ ⟨cond_f ?_ (cond_f (beq_eq_false_iff_ne.2 hf) ⟨cond_f rfl (J3_bad hf hK)⟩)⟩⟩⟩)))))
    · rw [beq_eq_false_iff_ne.2 hf]; rfl
    · rw [bne_iff_ne.2 hf]; simp

end Sr

theorem SpeculatePlanMatchesSpec_true (xs : ArgDen [(false, (.slice (.int .i64))), (true, (.pair (.int .i64) (.slice (.int .i64)))), (false, (.int .i64))]) (hw : WfAll _ xs) (K : Bool → Prop) (hK : K true) : L.law8_SpeculatePlanMatchesSpec xs.1 xs.2.1.1 xs.2.1.2 xs.2.2.1 K :=
  Sr.plan_true (Sp.big_of hw.2.1.2.1) K hK

end Go.Proofs.Ytjlejiefkmimiaa

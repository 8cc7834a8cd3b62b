/-
  Comparisons, outcomes, the example; what a run adds. Conditions: none.
-/
import Derived.Test.YtpfcgenmgddgpaaMqF
import Derived.Test.YtpfcgenmgddgpaaLift2
set_option maxRecDepth 100000
namespace Go.Proofs.Ytpfcgenmgddgpaa
open Eng
namespace Mq

def big (n : Nat) : Prop := n ≤ 9223372036854775807
theorem drop_cons {α} (d : α) {l : List α} {i : Nat} (h : i < l.length) : l.drop i = l.getD i d :: l.drop (i + 1) := by
  rw [List.drop_eq_getElem_cons h, getD_get _ _ _ h]
theorem bool_iff {a b : Bool} (h : a = true ↔ b = true) : a = b := Bool.eq_iff_iff.2 h

theorem Equal_loop {a b : List Int} (hl : big a.length) (he : a.length = b.length) {K : Bool → Prop} : ∀ (fu i : Nat), i ≤ a.length → a.length - i < fu → K (decide (a.drop i = b.drop i)) → L.ref8_EqualInts_L1_R a b fu i (K true) K
  | 0, i, _, h, _ => by omega
  | fu + 1, i, hi, h, hK => by
    show L.ref8_EqualInts_L1_b a b i _ _ _
    unfold L.ref8_EqualInts_L1_b
    unfold big at hl
    rcases Nat.lt_or_ge i a.length with g | g
    · rw [drop_cons (0 : Int) g, drop_cons (0 : Int) (l := b) (by omega)] at hK
      refine cond_t (by simp; omega) ⟨inB_of (by omega) (by omega), inB_of (by omega) (by omega), ?_⟩
      have e : ∀ l : List Int, l.getD (i : Int).toNat 0 = l.getD i 0 := fun _ => rfl
      rw [e, e]
      by_cases h1 : a.getD i 0 = b.getD i 0
      · refine cond_f (by rw [h1]; simp) ?_
        rw [i64_id (by omega) (by omega)]
        refine Equal_loop hl he fu (i + 1) (by omega) (by omega) ?_
        rw [h1] at hK
        simpa using hK
      · refine cond_t (by simpa using h1) ?_
        have : decide (a.getD i 0 :: a.drop (i + 1) = b.getD i 0 :: b.drop (i + 1)) = false := by simp; intro h2; exact absurd h2 h1
        rw [this] at hK; exact hK
    · rw [List.drop_eq_nil_of_le g, List.drop_eq_nil_of_le (by omega)] at hK
      exact cond_f (by simp; omega) (by simpa using hK)

theorem Equal_ok {a b : List Int} (hl : big a.length) {K : Bool → Prop} (hK : K (decide (a = b))) : L.ref8_EqualInts a b K := by
  constructor
  unfold L.ref8_EqualInts_B
  by_cases h : a.length = b.length
  · refine cond_f (by simp; omega) ⟨⟨a.length + 1, Equal_loop hl h _ 0 (by omega) (by omega) ?_⟩⟩
    simpa using hK
  · refine cond_t (by simp; omega) ?_
    have : decide (a = b) = false := by simp; intro e; exact h (by rw [e])
    rw [this] at hK; exact hK

theorem Has_loop {s : List Int} {v : Int} (hl : big s.length) {K : Bool → Prop} : ∀ (fu i : Nat), i ≤ s.length → s.length - i < fu → K (decide (v ∈ s.drop i)) → L.ref8_Has_L1_R s v fu i (K false) K
  | 0, i, _, h, _ => by omega
  | fu + 1, i, hi, h, hK => by
    show L.ref8_Has_L1_b s v i _ _ _
    unfold L.ref8_Has_L1_b
    unfold big at hl
    rcases Nat.lt_or_ge i s.length with g | g
    · rw [drop_cons (0 : Int) g] at hK
      refine cond_t (by simp; omega) ⟨inB_of (by omega) (by omega), ?_⟩
      have e : s.getD (i : Int).toNat 0 = s.getD i 0 := rfl
      rw [e]
      by_cases h1 : s.getD i 0 = v
      · refine cond_t (by simpa using h1) ?_
        have : decide (v ∈ s.getD i 0 :: s.drop (i + 1)) = true := by rw [decide_eq_true_eq]; exact List.mem_cons.2 (.inl h1.symm)
        rw [this] at hK; exact hK
      · refine cond_f (by simpa using h1) ?_
        rw [i64_id (by omega) (by omega)]
        refine Has_loop hl fu (i + 1) (by omega) (by omega) ?_
        have : decide (v ∈ s.getD i 0 :: s.drop (i + 1)) = decide (v ∈ s.drop (i + 1)) := by
          apply bool_iff
          rw [decide_eq_true_eq, decide_eq_true_eq, List.mem_cons]
          exact ⟨fun h => h.elim (fun e => absurd e.symm h1) id, .inr⟩
        rw [this] at hK; exact hK
    · rw [List.drop_eq_nil_of_le g] at hK
      exact cond_f (by simp; omega) (by simpa using hK)

theorem Has_ok {s : List Int} {v : Int} (hl : big s.length) {K : Bool → Prop} (hK : K (decide (v ∈ s))) : L.ref8_Has s v K :=
  ⟨⟨⟨s.length + 1, Has_loop hl _ 0 (by omega) (by omega) (by simpa using hK)⟩⟩⟩

theorem run_inv {w : Nat} : ∀ (r : List Ev) (i : Nat) (s : St), Inv i s → i + r.length ≤ 40 → Inv 40 (runL w r i s).2
  | [], i, s, h, hi => ⟨by have := h.1; simp at hi; show _ ≤ 40; simp only [runL]; omega, h.2⟩
  | e :: r, i, s, h, hi => by
    simp only [runL]
    simp only [List.length_cons] at hi
    split
    · next hc => exact run_inv r (i + 1) _ (step_inv (by omega) h (chk_pos hc)) (by omega)
    · exact ⟨by simp, fun e he => by simp at he⟩

theorem inv_nil (n : Nat) : Inv n ([], ([], [])) := ⟨by simp, fun e he => by simp at he⟩

theorem runQ_inv (w : Int) (evs : List Ev) : Inv 40 (runQ w evs).2 := by
  unfold runQ
  split
  · exact inv_nil 40
  · split
    · exact inv_nil 40
    · exact run_inv evs 0 _ (inv_nil 0) (by omega)

theorem run_code {w : Nat} : ∀ (r : List Ev) (i : Nat) (s : St), (runL w r i s).1 = (0, 0) ∨ (runL w r i s).1.1 ≠ 0
  | [], _, _ => .inl rfl
  | e :: r, i, s => by
    simp only [runL]
    split
    · exact run_code r (i + 1) _
    · next h => exact .inr h

theorem runQ_code (w : Int) (evs : List Ev) : (runQ w evs).1 = (0, 0) ∨ (runQ w evs).1.1 ≠ 0 := by
  unfold runQ
  split
  · exact .inr (by decide)
  · split
    · exact .inr (by decide)
    · exact run_code _ _ _

theorem out_loop {a b d : Int} {Kx : Prop} {Kr : Int → Int → Int → Int → Prop} (h1 : a ≥ 0 → Kr 1 a 0 0) (h2 : a < 0 → b ≥ 0 → Kr 2 b 0 0) (h3 : a < 0 → b < 0 → d ≥ 0 → Kr 3 d 0 0) (h4 : a < 0 → b < 0 → d < 0 → Kx) : L.mergequeue_Outcome_L1 a b d 0 Kx Kr := by
  have w1 : i64 ((0 : Int) + 1) = 1 := by rw [i64_id (by omega) (by omega)]; rfl
  have w2 : i64 ((1 : Int) + 1) = 2 := by rw [i64_id (by omega) (by omega)]; rfl
  have w3 : i64 ((2 : Int) + 1) = 3 := by rw [i64_id (by omega) (by omega)]; rfl
  refine ⟨⟨4, ?_⟩⟩
  show L.mergequeue_Outcome_L1_b a b d 0 _ Kx Kr
  unfold L.mergequeue_Outcome_L1_b
  rw [w1]
  refine cond_t (by decide) ⟨⟨by decide, by decide⟩, ?_⟩
  by_cases x : a ≥ 0
  · exact cond_t (decide_eq_true x) (h1 x)
  refine cond_f (decide_eq_false x) ?_
  show L.mergequeue_Outcome_L1_b a b d 1 _ Kx Kr
  unfold L.mergequeue_Outcome_L1_b
  rw [w2]
  refine cond_t (by decide) ⟨⟨by decide, by decide⟩, ?_⟩
  by_cases y : b ≥ 0
  · exact cond_t (decide_eq_true y) (h2 (by omega) y)
  refine cond_f (decide_eq_false y) ?_
  show L.mergequeue_Outcome_L1_b a b d 2 _ Kx Kr
  unfold L.mergequeue_Outcome_L1_b
  rw [w3]
  refine cond_t (by decide) ⟨⟨by decide, by decide⟩, ?_⟩
  by_cases z : d ≥ 0
  · exact cond_t (decide_eq_true z) (h3 (by omega) (by omega) z)
  refine cond_f (decide_eq_false z) ?_
  show L.mergequeue_Outcome_L1_b a b d 3 _ Kx Kr
  unfold L.mergequeue_Outcome_L1_b
  exact cond_f (by decide) (h4 (by omega) (by omega) (by omega))

theorem outcome_ok {w c : Int} {evs : List Ev} {K : Int → Int → Int → Int → Prop} (h0 : (runQ w evs).1 ≠ (0, 0) → K 0 0 (runQ w evs).1.1 (runQ w evs).1.2)
    (h1 : (runQ w evs).1 = (0, 0) → posI c (runQ w evs).2.2.1 0 ≥ 0 → K 1 (posI c (runQ w evs).2.2.1 0) 0 0)
    (h2 : (runQ w evs).1 = (0, 0) → posI c (runQ w evs).2.2.1 0 < 0 → posI c (runQ w evs).2.2.2 0 ≥ 0 → K 2 (posI c (runQ w evs).2.2.2 0) 0 0)
    (h3 : (runQ w evs).1 = (0, 0) → posI c (runQ w evs).2.2.1 0 < 0 → posI c (runQ w evs).2.2.2 0 < 0 → pos c (runQ w evs).2.1 ≥ 0 → K 3 (pos c (runQ w evs).2.1) 0 0)
    (h4 : (runQ w evs).1 = (0, 0) → posI c (runQ w evs).2.2.1 0 < 0 → posI c (runQ w evs).2.2.2 0 < 0 → pos c (runQ w evs).2.1 < 0 → K 0 0 6 (-3)) : L.mergequeue_Outcome w evs c K := by
  refine ⟨run_ok ?_⟩
  have hI := (runQ_inv w evs).1
  by_cases hc : (runQ w evs).1 = (0, 0)
  · refine cond_f (by rw [hc]; rfl) (Index_ok (by omega) (Index_ok (by omega) (find_ok (by omega) ?_)))
    exact out_loop (h1 hc) (h2 hc) (h3 hc) (h4 hc)
  · refine cond_t ?_ (h0 hc)
    rcases runQ_code w evs with h | h
    · exact absurd h hc
    · rw [beq_eq_false_iff_ne.2 h]; rfl

abbrev exE : List Ev := [(1, (5, 0)), (1, (6, 0)), (3, (6, 0)), (3, (5, 0))]
theorem ex1 : runQ 2 (exE.take 3) = ((0, 0), ([(5, (0, (true, (false, (false, []))))), (6, (0, (false, (true, (false, [5])))))], ([], []))) := by kernel_rfl
theorem ex2 : runQ 2 exE = ((0, 0), ([], ([5, 6], []))) := by kernel_rfl

theorem example_ok {K : Bool → Prop} (hK : K true) : L.law8_queueExample K := by
  refine ⟨⟨by decide, run_ok (run_ok (outcome_ok (fun h => ?_) (fun _ _ => ?_) (fun _ h _ => ?_) (fun _ h _ _ => ?_) (fun _ h _ _ => ?_)))⟩⟩
  · rw [ex2] at h; exact absurd rfl h
  · have e1 : runQ 2 ((([(1, (5, 0)), (1, (6, 0)), (3, (6, 0)), (3, (5, 0))] : List (Int × (Int × Int))).drop 0).take 3) = _ := ex1
    rw [e1, ex2]
    exact cond_t (by decide) (Equal_ok (by unfold big; decide) hK)
  · rw [ex2] at h; exact absurd h (by decide)
  · rw [ex2] at h; exact absurd h (by decide)
  · rw [ex2] at h; exact absurd h (by decide)

theorem stl_more : ∀ (n : Nat) (es : List Ent) (ld rj : List Int), ∃ x y, (stl n es ld rj).2 = (ld ++ x, rj ++ y)
  | 0, es, ld, rj => ⟨[], [], by simp [stl]⟩
  | n + 1, [], ld, rj => ⟨[], [], by simp [stl]⟩
  | n + 1, e :: r, ld, rj => by
    simp only [stl]
    cases (e.2.2.2.1 || e.2.2.2.2.1) with
    | false => exact ⟨[], [], by simp⟩
    | true =>
      simp only [cond_true]
      cases e.2.2.2.2.1 with
      | true =>
        obtain ⟨x, y, h⟩ := stl_more n (disc 0 r) ld (rj ++ [e.1])
        exact ⟨x, [e.1] ++ y, by simp only [cond_true, h, List.append_assoc]⟩
      | false =>
        obtain ⟨x, y, h⟩ := stl_more n (r.map (dea e.1)) (ld ++ [e.1]) rj
        exact ⟨[e.1] ++ x, y, by simp only [cond_false, h, List.append_assoc]⟩

theorem step_more (w : Nat) (s : St) (e : Ev) : ∃ x y, (step w s e).2 = (s.2.1 ++ x, s.2.2 ++ y) := by
  unfold step
  split
  · exact stl_more _ _ _ _
  · split <;> exact stl_more _ _ _ _

theorem run_more {w : Nat} : ∀ (r : List Ev) (i : Nat) (s : St), (runL w r i s).1.1 = 0 → ∃ x y, (runL w r i s).2.2 = (s.2.1 ++ x, s.2.2 ++ y)
  | [], i, s, _ => ⟨[], [], by simp [runL]⟩
  | e :: r, i, s, h => by
    simp only [runL] at h ⊢
    split at h
    · next hc =>
      rw [if_pos hc]
      obtain ⟨x, y, h1⟩ := step_more w s e
      obtain ⟨x', y', h2⟩ := run_more r (i + 1) _ h
      rw [h1] at h2
      exact ⟨x ++ x', y ++ y', by rw [h2]; simp⟩
    · next hc => exact absurd h hc

theorem run_app {w : Nat} : ∀ (a b : List Ev) (i : Nat) (s : St), runL w (a ++ b) i s = if (runL w a i s).1.1 = 0 then runL w b (i + a.length) (runL w a i s).2 else runL w a i s
  | [], b, i, s => by simp [runL]
  | e :: a, b, i, s => by
    simp only [List.cons_append, runL]
    split
    · rw [run_app a b (i + 1), List.length_cons, show i + 1 + a.length = i + (a.length + 1) from by omega]
    · rfl

end Mq

abbrev EvT : Ty := .slice (.pair (.int .i64) (.pair (.int .i64) (.int .i64)))

end Go.Proofs.Ytpfcgenmgddgpaa

/-
  What looking up and checking compute. Conditions: none.
-/
import Derived.Test.YtpfcgenmgddgpaaMqC
namespace Go.Proofs.Ytpfcgenmgddgpaa
open Eng
namespace Mq

/-- The place of a change, or -1. -/
def posA (c : Int) : List Ent → Nat → Int
  | [], _ => -1
  | e :: r, i => if e.1 = c then i else posA c r (i + 1)
def posI (c : Int) : List Int → Nat → Int
  | [], _ => -1
  | x :: r, i => if c = x then i else posI c r (i + 1)
def pos (c : Int) (es : List Ent) : Int := posA c es 0

theorem posA_or (c : Int) : ∀ (es : List Ent) (i : Nat), posA c es i = -1 ∧ (∀ e, e ∈ es → e.1 ≠ c) ∨ ∃ k e, posA c es i = ((i + k : Nat) : Int) ∧ es[k]? = some e ∧ e.1 = c
  | [], i => .inl ⟨rfl, by simp⟩
  | e :: r, i => by
    simp only [posA]
    by_cases h : e.1 = c
    · rw [if_pos h]; exact .inr ⟨0, e, rfl, rfl, h⟩
    · rw [if_neg h]
      rcases posA_or c r (i + 1) with ⟨h1, h2⟩ | ⟨k, x, h1, h2, h3⟩
      · refine .inl ⟨h1, fun y hy => ?_⟩
        rcases List.mem_cons.1 hy with rfl | hy
        · exact h
        · exact h2 y hy
      · exact .inr ⟨k + 1, x, by rw [h1]; omega, h2, h3⟩

theorem posI_or (c : Int) : ∀ (l : List Int) (i : Nat), posI c l i = -1 ∧ c ∉ l ∨ ∃ k, posI c l i = ((i + k : Nat) : Int) ∧ l[k]? = some c
  | [], i => .inl ⟨rfl, by simp⟩
  | x :: r, i => by
    simp only [posI]
    by_cases h : c = x
    · rw [if_pos h]; exact .inr ⟨0, rfl, by rw [h]; rfl⟩
    · rw [if_neg h]
      rcases posI_or c r (i + 1) with ⟨h1, h2⟩ | ⟨k, h1, h2⟩
      · exact .inl ⟨h1, by simp [h, h2]⟩
      · exact .inr ⟨k + 1, by rw [h1]; omega, h2⟩

theorem find_loop {c : Int} {es : List Ent} (hb : es.length < 4611686018427387904) {Kx : Prop} {Kr : Int → Prop} (hx : pos c es = -1 → Kx) (hr : ∀ k : Nat, pos c es = k → Kr k) :
    ∀ (fu i : Nat), i ≤ es.length → es.length - i < fu → posA c (es.drop i) i = pos c es → L.slices_IndexFunc_v2_L1_R es c (es.length : Int) fu i Kx Kr
  | 0, i, _, h, _ => by omega
  | fu + 1, i, hi, h, he => by
    show L.slices_IndexFunc_v2_L1_b es c (es.length : Int) i _ Kx Kr
    unfold L.slices_IndexFunc_v2_L1_b
    rcases Nat.lt_or_ge i es.length with g | g
    · refine cond_t (by simp; omega) ⟨⟨by omega, by omega⟩, ⟨?_⟩⟩
      rw [Int.toNat_natCast, i64_succ (i := i) (by omega), getD_get _ _ _ g]
      rw [List.drop_eq_getElem_cons g] at he
      simp only [posA] at he
      show bif (es[i].1 == c) then _ else _
      by_cases hp : es[i].1 = c
      · rw [if_pos hp] at he
        exact cond_t (by simpa using hp) (hr i he.symm)
      · rw [if_neg hp] at he
        exact cond_f (by simpa using hp) (find_loop hb hx hr fu (i + 1) g (by omega) he)
    · obtain rfl : i = es.length := by omega
      rw [List.drop_length] at he
      exact cond_f (by simp) (hx he.symm)

theorem find_ok {c : Int} {es : List Ent} {ld rj : List Int} {w : Int} (hb : es.length < 4611686018427387904) {K : Int → Prop} (hK : K (pos c es)) : L.mergequeue_queue_find es ld rj w c K :=
  ⟨⟨⟨⟨es.length + 1, find_loop hb (fun h => by rw [h] at hK; exact hK) (fun k h => by rw [h] at hK; exact hK) (es.length + 1) 0 (by omega) (by omega) rfl⟩⟩⟩⟩

theorem index_loop {c : Int} {l : List Int} (hb : l.length < 4611686018427387904) {Kx : Prop} {Kr : Int → Prop} (hx : posI c l 0 = -1 → Kx) (hr : ∀ k : Nat, posI c l 0 = k → Kr k) :
    ∀ (fu i : Nat), i ≤ l.length → l.length - i < fu → posI c (l.drop i) i = posI c l 0 → L.slices_Index_L1_R l c (l.length : Int) fu i Kx Kr
  | 0, i, _, h, _ => by omega
  | fu + 1, i, hi, h, he => by
    show L.slices_Index_L1_b l c (l.length : Int) i _ Kx Kr
    unfold L.slices_Index_L1_b
    rcases Nat.lt_or_ge i l.length with g | g
    · refine cond_t (by simp; omega) ⟨⟨by omega, by omega⟩, ?_⟩
      rw [Int.toNat_natCast, i64_succ (i := i) (by omega), getD_get _ _ _ g]
      rw [List.drop_eq_getElem_cons g] at he
      simp only [posI] at he
      by_cases hp : c = l[i]
      · rw [if_pos hp] at he
        exact cond_t (by simpa using hp) (hr i he.symm)
      · rw [if_neg hp] at he
        exact cond_f (by simpa using hp) (index_loop hb hx hr fu (i + 1) g (by omega) he)
    · obtain rfl : i = l.length := by omega
      rw [List.drop_length] at he
      exact cond_f (by simp) (hx he.symm)

theorem Index_ok {c : Int} {l : List Int} (hb : l.length < 4611686018427387904) {K : Int → Prop} (hK : K (posI c l 0)) : L.slices_Index l c K :=
  ⟨⟨⟨l.length + 1, index_loop hb (fun h => by rw [h] at hK; exact hK) (fun k h => by rw [h] at hK; exact hK) (l.length + 1) 0 (by omega) (by omega) rfl⟩⟩⟩

theorem Contains_ok {c : Int} {l : List Int} (hb : l.length < 4611686018427387904) {K : Bool → Prop} (hK : K (decide (posI c l 0 ≥ 0))) : L.slices_Contains l c K :=
  ⟨Index_ok hb hK⟩

/-- The error of an event. -/
def chk (es : List Ent) (ld rj : List Int) (kd c p : Int) : Int :=
  if kd < 1 ∨ kd > 4 then 4 else
  if c < 1 ∨ c > 1000000000 ∨ p < 0 ∨ p > 3 then 3 else
  if kd ≠ 1 ∧ p ≠ 0 then 5 else
  if kd = 1 ∧ (pos c es ≥ 0 ∨ posI c ld 0 ≥ 0 ∨ posI c rj 0 ≥ 0) then 7 else
  if kd = 1 ∧ es.length ≥ 10 then 14 else
  if kd ≠ 1 ∧ pos c es < 0 then 6 else
  if kd ≥ 3 ∧ (es.getD (pos c es).toNat e0).2.2.1 = false then 11 else 0

theorem j1_ok {es : List Ent} {kd k : Int} {v : Bool} (hk : k < es.length) {Kn : Prop} {Kr : Int → Prop} (h7 : v = true → Kr 7) (h14 : v = false → kd = 1 ∧ es.length ≥ 10 → Kr 14)
    (h6 : v = false → ¬ (kd = 1 ∧ es.length ≥ 10) → kd ≠ 1 ∧ k < 0 → Kr 6) (h11 : v = false → ¬ (kd = 1 ∧ es.length ≥ 10) → ¬ (kd ≠ 1 ∧ k < 0) → kd ≥ 3 ∧ (es.getD k.toNat e0).2.2.1 = false → Kr 11)
    (h0 : v = false → ¬ (kd = 1 ∧ es.length ≥ 10) → ¬ (kd ≠ 1 ∧ k < 0) → ¬ (kd ≥ 3 ∧ (es.getD k.toNat e0).2.2.1 = false) → Kn) : L.mergequeue_queue_check_J1 es (kd == 1) k v kd Kn Kr := by
  refine ⟨?_⟩
  unfold L.mergequeue_queue_check_J1_B
  cases v with
  | true => exact h7 rfl
  | false =>
    refine cond_f rfl ?_
    by_cases a : kd = 1 ∧ es.length ≥ 10
    · exact cond_t (by simp only [band, Bool.and_eq_true, beq_iff_eq, decide_eq_true_eq]; omega) (h14 rfl a)
    refine cond_f (by simp only [band, Bool.and_eq_false_iff, beq_eq_false_iff_ne, decide_eq_false_iff_not]; omega) ?_
    by_cases b : kd ≠ 1 ∧ k < 0
    · exact cond_t (by simp only [band, Bool.and_eq_true, Bool.not_eq_true', beq_eq_false_iff_ne, decide_eq_true_eq]; exact b) (h6 rfl a b)
    refine cond_f (by simp only [band, Bool.and_eq_false_iff, Bool.not_eq_false', beq_iff_eq, decide_eq_false_iff_not]; omega) ⟨fun hd => ?_, ?_⟩
    · have : kd ≥ 3 := by simpa using hd
      exact ⟨by omega, hk⟩
    by_cases d : kd ≥ 3 ∧ (es.getD k.toNat e0).2.2.1 = false
    · exact cond_t (by simp only [band, Bool.and_eq_true, Bool.not_eq_true', decide_eq_true_eq]; exact d) (h11 rfl a b d)
    refine cond_f ?_ (h0 rfl a b d)
    simp only [band, Bool.and_eq_false_iff, Bool.not_eq_false', decide_eq_false_iff_not]
    by_cases e : kd ≥ 3
    · right
      cases hh : (es.getD k.toNat e0).2.2.1 with
      | true => rfl
      | false => exact absurd ⟨e, hh⟩ d
    · exact .inl e

theorem check_ok {es : List Ent} {ld rj : List Int} {w kd c p : Int} (hb : es.length ≤ 1000) (hl : ld.length ≤ 1000) (hr : rj.length ≤ 1000) {K : Int → Prop} (hK : K (chk es ld rj kd c p)) :
    L.mergequeue_queue_check es ld rj w kd c p K := by
  refine ⟨find_ok (by omega) ?_⟩
  have hp : pos c es < es.length := by
    rcases posA_or c es 0 with ⟨h, _⟩ | ⟨k, e, h, h2, _⟩
    · show posA c es 0 < _
      rw [h]; omega
    · show posA c es 0 < _
      have := (List.getElem?_eq_some_iff.1 h2).1
      rw [h]; omega
  unfold chk at hK
  by_cases a : kd < 1 ∨ kd > 4
  · rw [if_pos a] at hK
    exact cond_t (by simp only [bor, Bool.or_eq_true, decide_eq_true_eq]; exact a) hK
  rw [if_neg a] at hK
  refine cond_f (by simp only [bor, Bool.or_eq_false_iff, decide_eq_false_iff_not]; omega) ?_
  by_cases b : c < 1 ∨ c > 1000000000 ∨ p < 0 ∨ p > 3
  · rw [if_pos b] at hK
    exact cond_t (by simp only [bor, Bool.or_eq_true, decide_eq_true_eq]; omega) hK
  rw [if_neg b] at hK
  refine cond_f (by simp only [bor, Bool.or_eq_false_iff, decide_eq_false_iff_not]; omega) ?_
  by_cases d : kd ≠ 1 ∧ p ≠ 0
  · rw [if_pos d] at hK
    exact cond_t (by simp only [band, Bool.and_eq_true, Bool.not_eq_true', beq_eq_false_iff_ne, bne_iff_ne]; exact d) hK
  rw [if_neg d] at hK
  refine cond_f (by
    cases h1 : (kd == 1) with
    | true => rfl
    | false =>
      simp only [Bool.not_false, cond_true]
      rw [beq_eq_false_iff_ne] at h1
      have : p = 0 := by omega
      simp [this]) ?_
  have J : ∀ v : Bool, (v = true ↔ kd = 1 ∧ (pos c es ≥ 0 ∨ posI c ld 0 ≥ 0 ∨ posI c rj 0 ≥ 0)) → L.mergequeue_queue_check_J1 es (kd == 1) (pos c es) v kd (K 0) K := fun v hv => by
    have hf : v = false → ¬ (kd = 1 ∧ (pos c es ≥ 0 ∨ posI c ld 0 ≥ 0 ∨ posI c rj 0 ≥ 0)) := fun h g => by
      rw [hv.2 g] at h; cases h
    refine j1_ok hp (fun h => ?_) (fun h g1 => ?_) (fun h g1 g2 => ?_) (fun h g1 g2 g3 => ?_) (fun h g1 g2 g3 => ?_)
    · rw [if_pos (hv.1 h)] at hK; exact hK
    · rw [if_neg (hf h), if_pos g1] at hK; exact hK
    · rw [if_neg (hf h), if_neg g1, if_pos g2] at hK; exact hK
    · rw [if_neg (hf h), if_neg g1, if_neg g2, if_pos g3] at hK; exact hK
    · rw [if_neg (hf h), if_neg g1, if_neg g2, if_neg g3] at hK; exact hK
  by_cases e1 : kd = 1
  · by_cases e2 : pos c es ≥ 0
    · refine cond_f (by simp [okAll, e1, e2]) (cond_t (by simp [okAll, e1]) (cond_f (by simp [okAll, e1]) ?_))
      exact J true (by simp [e1, e2])
    · refine cond_t (by simp [okAll, e1]; omega) (Contains_ok (by omega) ?_)
      by_cases e3 : posI c ld 0 ≥ 0
      · refine cond_f (by simp [okAll, e1, e2, e3]) ?_
        exact J true (by simp [e1, e3])
      · refine cond_t (by simp [okAll, e1, e2, e3]) (Contains_ok (by omega) ?_)
        refine J _ ?_
        simp [e1, e2, e3]
  · refine cond_f (by simp [okAll, e1]) (cond_f (by simp [okAll, e1]) ?_)
    exact J false (by simp [e1])

end Mq
end Go.Proofs.Ytpfcgenmgddgpaa

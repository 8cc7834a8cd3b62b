/-
  What Validate computes. Conditions: none.
-/
import Derived.Test.YtfkhdfmnhkndeaaDlC
namespace Go.Proofs.Ytfkhdfmnhkndeaa
open Eng
namespace Dl

def goodC (n : Nat) (c : Int) : Prop := 0 ≤ c ∧ c < n

theorem wrong_ok {n : Nat} {c : Int} {K : Bool → Prop} (h1 : goodC n c → K false) (h2 : ¬ goodC n c → K true) : L.deadline_checkOp_1_v1 c n K := by
  constructor
  unfold L.deadline_checkOp_1_v1_B
  by_cases h : goodC n c
  · have e : (bif (decide (c < 0)) then true else (decide (c ≥ n))) = false := by unfold goodC at h; simp; omega
    rw [e]
    exact h1 h
  · have e : (bif (decide (c < 0)) then true else (decide (c ≥ n))) = true := by unfold goodC at h; simp; omega
    rw [e]
    exact h2 h

theorem cont_loop {n : Nat} {cs : List Int} (hl : cs.length ≤ 9223372036854775807) {K0 : Prop} {Kr : Int → Prop} (h1 : (∀ c, c ∈ cs → goodC n c) → K0) (h2 : ∀ i : Nat, ¬ (∀ c, c ∈ cs → goodC n c) → Kr i) :
    ∀ (fu i : Nat), i ≤ cs.length → cs.length - i < fu → (∀ c, c ∈ cs.take i → goodC n c) → L.slices_IndexFunc_v3_L1_R cs n cs.length fu i K0 Kr
  | 0, i, _, h, _ => by omega
  | fu + 1, i, hi, h, hp => by
    show L.slices_IndexFunc_v3_L1_b cs n cs.length i _ K0 Kr
    unfold L.slices_IndexFunc_v3_L1_b
    rcases Nat.lt_or_ge i cs.length with g | g
    · refine cond_t (by simp; omega) ⟨⟨by omega, by omega⟩, ?_⟩
      rw [Int.toNat_natCast, getD_get _ _ _ g]
      refine wrong_ok (fun hg => cond_f rfl ?_) fun hg => cond_t rfl (h2 i fun ha => hg (ha _ (List.getElem_mem g)))
      rw [i64_succ (by omega)]
      refine cont_loop hl h1 h2 fu (i + 1) g (by omega) fun c hc => ?_
      rw [List.take_add_one, List.getElem?_eq_getElem g, List.mem_append] at hc
      rcases hc with hc | hc
      · exact hp c hc
      · simp only [Option.toList_some, List.mem_singleton] at hc
        rw [hc]
        exact hg
    · obtain rfl : i = cs.length := by omega
      rw [List.take_length] at hp
      exact cond_f (by simp) (h1 hp)

theorem cont_ok {n : Nat} {cs : List Int} (hl : cs.length ≤ 9223372036854775807) {K : Bool → Prop} (h1 : (∀ c, c ∈ cs → goodC n c) → K false) (h2 : ¬ (∀ c, c ∈ cs → goodC n c) → K true) : L.slices_ContainsFunc_v2 cs n K := by
  refine ⟨⟨⟨⟨cs.length + 1, ?_⟩⟩⟩⟩
  exact cont_loop hl (fun h => h1 h) (fun i h => by
    have e : decide ((i : Int) ≥ 0) = true := decide_eq_true (by omega)
    show K (decide ((i : Int) ≥ 0))
    rw [e]
    exact h2 h) (cs.length + 1) 0 (by omega) (by omega) (by simp)

theorem j3_ok {n : Nat} {o : Op} (hl : o.2.2.2.2.length ≤ 9223372036854775807) {least : Int} {v : Bool} {K : Int → Prop} (hv : v = true → ∀ c, c ≠ 0 → K c)
    (hb : v = false → ((∀ c, c ∈ o.2.2.2.2 → goodC n c) ∧ (0 ≤ o.2.2.1 ∧ o.2.2.1 ≤ 1000000000) ∧ least ≤ o.2.2.2.1 ∧ o.2.2.2.1 ≤ 60 ∧ o.2.2.2.2.length ≤ 4 → K 0) ∧
      (¬ ((∀ c, c ∈ o.2.2.2.2 → goodC n c) ∧ (0 ≤ o.2.2.1 ∧ o.2.2.1 ≤ 1000000000) ∧ least ≤ o.2.2.2.1 ∧ o.2.2.2.1 ≤ 60 ∧ o.2.2.2.2.length ≤ 4) → ∀ c, c ≠ 0 → K c)) :
    L.deadline_checkOp_J3 least v o.2.2.1 o.2.2.2.1 o.2.2.2.2 n (fun v => L.deadline_checkOp_J2 v o.2.2.2.2 (K 0) K) := by
  constructor
  unfold L.deadline_checkOp_J3_B
  cases v with
  | true => exact ⟨hv rfl 3 (by decide)⟩
  | false =>
    obtain ⟨hb1, hb2⟩ := hb rfl
    refine cond_f rfl (cont_ok hl (fun hc => cond_f rfl ?_) fun hc => cond_t rfl ⟨hb2 (fun h => hc h.1) 3 (by decide)⟩)
    by_cases h1 : 0 ≤ o.2.2.1 ∧ o.2.2.1 ≤ 1000000000
    · have e : (bif (decide (o.2.2.1 < 0)) then true else (decide (o.2.2.1 > 1000000000))) = false := by simp; omega
      refine cond_f e ⟨?_⟩
      unfold L.deadline_checkOp_J2_B
      by_cases h2 : least ≤ o.2.2.2.1 ∧ o.2.2.2.1 ≤ 60
      · have e : (bif (decide (o.2.2.2.1 < least)) then true else (decide (o.2.2.2.1 > 60))) = false := by simp; omega
        rw [e]
        refine cond_f rfl ?_
        by_cases h3 : o.2.2.2.2.length ≤ 4
        · exact cond_f (by simp; omega) (hb1 ⟨hc, h1, h2.1, h2.2, h3⟩)
        · exact cond_t (by simp; omega) (hb2 (fun h => h3 h.2.2.2.2) 2 (by decide))
      · have e : (bif (decide (o.2.2.2.1 < least)) then true else (decide (o.2.2.2.1 > 60))) = true := by simp; omega
        rw [e]
        exact cond_t rfl (hb2 (fun h => h2 ⟨h.2.2.1, h.2.2.2.1⟩) 3 (by decide))
    · have e : (bif (decide (o.2.2.1 < 0)) then true else (decide (o.2.2.1 > 1000000000))) = true := by simp; omega
      refine cond_t e ?_
      rw [e]
      exact ⟨cond_t rfl (hb2 (fun h => h1 h.2.1) 3 (by decide))⟩

theorem j6_ok {n : Nat} {o : Op} (hl : o.2.2.2.2.length ≤ 9223372036854775807) {least : Int} (hle : least = if o.1 = 3 then -1 else 0) {v : Bool} {K : Int → Prop} (hk : 1 ≤ o.1 ∧ o.1 ≤ 4) (hv : v = true → ¬ OpOk n o)
    (hf : v = false → (2 < o.1 → o.2.1 = 0) ∧ (o.1 ≠ 1 → o.2.2.1 = 0) ∧ (o.1 ≤ 2 → o.2.2.2.1 = 0) ∧ (o.1 ≠ 3 → o.2.2.2.2 = [])) (h1 : OpOk n o → K 0) (h2 : ¬ OpOk n o → ∀ c, c ≠ 0 → K c) :
    L.deadline_checkOp_J6 (o.1 == 1) (o.1 == 2) least v o.2.1 o.2.2.1 o.2.2.2.1 o.2.2.2.2 n (K 0) K := by
  constructor
  unfold L.deadline_checkOp_J6_B
  cases v with
  | true => exact h2 (hv rfl) 5 (by decide)
  | false =>
    obtain ⟨f1, f2, f3, f4⟩ := hf rfl
    refine cond_f rfl ?_
    have all : (o.1 ≤ 2 → goodC n o.2.1) → ((∀ c, c ∈ o.2.2.2.2 → goodC n c) ∧ (0 ≤ o.2.2.1 ∧ o.2.2.1 ≤ 1000000000) ∧ least ≤ o.2.2.2.1 ∧ o.2.2.2.1 ≤ 60 ∧ o.2.2.2.2.length ≤ 4 → K 0) ∧
      (¬ ((∀ c, c ∈ o.2.2.2.2 → goodC n c) ∧ (0 ≤ o.2.2.1 ∧ o.2.2.1 ≤ 1000000000) ∧ least ≤ o.2.2.2.1 ∧ o.2.2.2.1 ≤ 60 ∧ o.2.2.2.2.length ≤ 4) → ∀ c, c ≠ 0 → K c) := by
      intro hc
      refine ⟨fun ⟨g1, g2, g3, g4, g5⟩ => h1 ⟨hk, hc, f1, g2, f2, f3, ⟨g4, ?_, fun h3 => ?_⟩, g1, g5, f4⟩, fun hno => h2 fun ho => hno ⟨ho.chans, ho.val, ?_, ho.wait.1, ho.few⟩⟩
      · split at hle <;> omega
      · rw [if_neg h3] at hle; omega
      · have := ho.wait
        split at hle
        · omega
        · next h3 =>
          have := this.2.2 h3
          omega
    by_cases h12 : o.1 = 1 ∨ o.1 = 2
    · refine cond_t ?_ (wrong_ok (fun hg => ?_) fun hg => ?_)
      · rcases h12 with h | h <;> simp [h]
      · exact j3_ok hl (fun e => by cases e) fun _ => all fun _ => hg
      · exact j3_ok hl (fun _ => h2 fun ho => hg (ho.chan (by omega))) fun e => by cases e
    · refine cond_f ?_ (j3_ok hl (fun e => by cases e) fun _ => all fun h => by omega)
      have a1 : (o.1 == 1) = false := beq_eq_false_iff_ne.2 (by omega)
      have a2 : (o.1 == 2) = false := beq_eq_false_iff_ne.2 (by omega)
      rw [a1, a2]
      rfl

theorem checkOp_ok {n : Nat} {o : Op} (hl : o.2.2.2.2.length ≤ 9223372036854775807) {K : Int → Prop} (h1 : OpOk n o → K 0) (h2 : ¬ OpOk n o → ∀ c, c ≠ 0 → K c) :
    L.deadline_checkOp o.1 o.2.1 o.2.2.1 o.2.2.2.1 o.2.2.2.2 n K := by
  have j5 : ∀ least : Int, least = (if o.1 = 3 then -1 else 0) → L.deadline_checkOp_J5 (o.1 == 1) (o.1 == 2) (o.1 == 3) (o.1 == 4) least o.2.1 o.2.2.1 o.2.2.2.1 o.2.2.2.2 n K := by
    intro least hle
    constructor
    unfold L.deadline_checkOp_J5_B
    by_cases hk : 1 ≤ o.1 ∧ o.1 ≤ 4
    · have hk' : o.1 = 1 ∨ o.1 = 2 ∨ o.1 = 3 ∨ o.1 = 4 := by omega
      refine cond_f ?_ ?_
      · rcases hk' with h | h | h | h <;> simp [h]
      · have e1 : (bif (bif (o.2.1 != 0) then (!(o.1 == 1)) else false) then (!(o.1 == 2)) else false) = decide (o.2.1 ≠ 0 ∧ 2 < o.1) := by
          by_cases a : o.2.1 = 0
          · simp [a]
          · rcases hk' with h | h | h | h <;> simp [h, a]
        have e2 : (bif (o.2.2.1 != 0) then (!(o.1 == 1)) else false) = decide (o.2.2.1 ≠ 0 ∧ o.1 ≠ 1) := by
          by_cases a : o.2.2.1 = 0
          · simp [a]
          · rcases hk' with h | h | h | h <;> simp [h, a]
        have e3 : (bif (bif (o.2.2.2.1 != 0) then (!(o.1 == 3)) else false) then (!(o.1 == 4)) else false) = decide (o.2.2.2.1 ≠ 0 ∧ o.1 ≤ 2) := by
          by_cases a : o.2.2.2.1 = 0
          · simp [a]
          · rcases hk' with h | h | h | h <;> simp [h, a]
        have e4 : (bif (decide ((o.2.2.2.2.length : Int) > 0)) then (!(o.1 == 3)) else false) = decide (o.2.2.2.2 ≠ [] ∧ o.1 ≠ 3) := by
          by_cases a : o.2.2.2.2 = []
          · simp [a]
          · have : 0 < o.2.2.2.2.length := List.length_pos_iff.2 a
            have : decide ((o.2.2.2.2.length : Int) > 0) = true := decide_eq_true (by omega)
            rw [this]
            rcases hk' with h | h | h | h <;> simp [h, a]
        rw [e1, e2, e3, e4]
        by_cases c1 : o.2.1 ≠ 0 ∧ 2 < o.1
        · rw [decide_eq_true c1]
          exact cond_t rfl (j6_ok hl hle hk (fun _ ho => c1.1 (ho.chan0 c1.2)) (fun e => by cases e) h1 h2)
        rw [decide_eq_false c1]
        refine cond_f rfl ?_
        by_cases c2 : o.2.2.1 ≠ 0 ∧ o.1 ≠ 1
        · rw [decide_eq_true c2]
          exact cond_t rfl (j6_ok hl hle hk (fun _ ho => c2.1 (ho.val0 c2.2)) (fun e => by cases e) h1 h2)
        rw [decide_eq_false c2]
        refine cond_f rfl ?_
        by_cases c3 : o.2.2.2.1 ≠ 0 ∧ o.1 ≤ 2
        · rw [decide_eq_true c3]
          exact cond_t rfl (j6_ok hl hle hk (fun _ ho => c3.1 (ho.wait0 c3.2)) (fun e => by cases e) h1 h2)
        rw [decide_eq_false c3]
        refine cond_f rfl (j6_ok hl hle hk (fun e ho => ?_) (fun e => ?_) h1 h2)
        · have c4 := of_decide_eq_true e
          exact c4.1 (ho.chans0 c4.2)
        · have c4 := of_decide_eq_false e
          refine ⟨fun h => ?_, fun h => ?_, fun h => ?_, fun h => ?_⟩
          · exact Classical.not_not.1 fun a => c1 ⟨a, h⟩
          · exact Classical.not_not.1 fun a => c2 ⟨a, h⟩
          · exact Classical.not_not.1 fun a => c3 ⟨a, h⟩
          · exact Classical.not_not.1 fun a => c4 ⟨a, h⟩
    · refine cond_t ?_ (h2 (fun ho => hk ho.kind) 4 (by decide))
      have a1 : (o.1 == 1) = false := beq_eq_false_iff_ne.2 (by omega)
      have a2 : (o.1 == 2) = false := beq_eq_false_iff_ne.2 (by omega)
      have a3 : (o.1 == 3) = false := beq_eq_false_iff_ne.2 (by omega)
      have a4 : (o.1 == 4) = false := beq_eq_false_iff_ne.2 (by omega)
      rw [a1, a2, a3, a4]
      rfl
  constructor
  unfold L.deadline_checkOp_B
  by_cases h3 : o.1 = 3
  · exact cond_t (beq_iff_eq.2 h3) (j5 (-1) (by rw [if_pos h3]))
  · exact cond_f (beq_eq_false_iff_ne.2 h3) (j5 0 (by rw [if_neg h3]))

/-- Valid channels and scripts. -/
structure Valid (caps : List Int) (sc : List (List Op)) : Prop where
  nc : caps.length ≤ 4
  ns : sc.length ≤ 5
  cap : ∀ n, n ∈ caps → 1 ≤ n ∧ n ≤ 4
  len : ∀ l, l ∈ sc → l.length ≤ 8
  ops : ∀ l, l ∈ sc → ∀ o, o ∈ l → OpOk caps.length o

theorem v1_loop {caps : List Int} (hl : caps.length ≤ 4) {K0 : Prop} {Kr : Int → Int → Prop} (h1 : (∀ n, n ∈ caps → 1 ≤ n ∧ n ≤ 4) → K0) (h2 : ¬ (∀ n, n ∈ caps → 1 ≤ n ∧ n ≤ 4) → ∀ c i, c ≠ 0 → Kr c i) :
    ∀ (fu i : Nat), i ≤ caps.length → caps.length - i < fu → (∀ n, n ∈ caps.take i → 1 ≤ n ∧ n ≤ 4) → L.deadline_Validate_L1_R caps caps.length fu i K0 Kr
  | 0, i, _, h, _ => by omega
  | fu + 1, i, hi, h, hp => by
    show L.deadline_Validate_L1_b caps caps.length i _ K0 Kr
    unfold L.deadline_Validate_L1_b
    rcases Nat.lt_or_ge i caps.length with g | g
    · refine cond_t (by simp; omega) ⟨⟨by omega, by omega⟩, ?_⟩
      rw [Int.toNat_natCast, getD_get _ _ _ g]
      by_cases hc : 1 ≤ caps[i] ∧ caps[i] ≤ 4
      · refine cond_f (by simp; omega) ?_
        rw [i64_succ (by omega)]
        refine v1_loop hl h1 h2 fu (i + 1) g (by omega) fun n hn => ?_
        rw [List.take_add_one, List.getElem?_eq_getElem g, List.mem_append] at hn
        rcases hn with hn | hn
        · exact hp n hn
        · simp only [Option.toList_some, List.mem_singleton] at hn
          rw [hn]
          exact hc
      · exact cond_t (by simp; omega) (h2 (fun ha => hc (ha _ (List.getElem_mem g))) 3 _ (by decide))
    · obtain rfl : i = caps.length := by omega
      rw [List.take_length] at hp
      exact cond_f (by simp) (h1 hp)

theorem v2_loop {caps : List Int} {l : List Op} (hl : l.length ≤ 8) (hb : ∀ o, o ∈ l → o.2.2.2.2.length ≤ 9223372036854775807) {x : Int} {K0 : Prop} {Kr : Int → Int → Prop} (h1 : (∀ o, o ∈ l → OpOk caps.length o) → K0) (h2 : ¬ (∀ o, o ∈ l → OpOk caps.length o) → ∀ c i, c ≠ 0 → Kr c i) :
    ∀ (fu i : Nat), i ≤ l.length → l.length - i < fu → (∀ o, o ∈ l.take i → OpOk caps.length o) → L.deadline_Validate_L2_R caps x l l.length fu i K0 Kr
  | 0, i, _, h, _ => by omega
  | fu + 1, i, hi, h, hp => by
    show L.deadline_Validate_L2_b caps x l l.length i _ K0 Kr
    unfold L.deadline_Validate_L2_b
    rcases Nat.lt_or_ge i l.length with g | g
    · refine cond_t (by simp; omega) ⟨⟨by omega, by omega⟩, ?_⟩
      rw [Int.toNat_natCast, getD_get _ _ _ g]
      refine checkOp_ok (hb _ (List.getElem_mem g)) (fun ho => cond_f rfl ?_) fun ho c hc => cond_t (bne_iff_ne.2 hc) (h2 (fun ha => ho (ha _ (List.getElem_mem g))) c _ hc)
      rw [i64_succ (by omega)]
      refine v2_loop hl hb h1 h2 fu (i + 1) g (by omega) fun o ho' => ?_
      rw [List.take_add_one, List.getElem?_eq_getElem g, List.mem_append] at ho'
      rcases ho' with hn | hn
      · exact hp o hn
      · simp only [Option.toList_some, List.mem_singleton] at hn
        rw [hn]
        exact ho
    · obtain rfl : i = l.length := by omega
      rw [List.take_length] at hp
      exact cond_f (by simp) (h1 hp)

theorem v3_loop {caps : List Int} {sc : List (List Op)} (hl : sc.length ≤ 5) (hb : ∀ l, l ∈ sc → ∀ o, o ∈ l → o.2.2.2.2.length ≤ 9223372036854775807) {K0 : Prop} {Kr : Int → Int → Prop}
    (h1 : (∀ l, l ∈ sc → l.length ≤ 8 ∧ ∀ o, o ∈ l → OpOk caps.length o) → K0) (h2 : ¬ (∀ l, l ∈ sc → l.length ≤ 8 ∧ ∀ o, o ∈ l → OpOk caps.length o) → ∀ c i, c ≠ 0 → Kr c i) :
    ∀ (fu i : Nat), i ≤ sc.length → sc.length - i < fu → (∀ l, l ∈ sc.take i → l.length ≤ 8 ∧ ∀ o, o ∈ l → OpOk caps.length o) → L.deadline_Validate_L3_R caps sc sc.length fu i K0 Kr
  | 0, i, _, h, _ => by omega
  | fu + 1, i, hi, h, hp => by
    show L.deadline_Validate_L3_b caps sc sc.length i _ K0 Kr
    unfold L.deadline_Validate_L3_b
    rcases Nat.lt_or_ge i sc.length with g | g
    · refine cond_t (by simp; omega) ⟨⟨by omega, by omega⟩, ?_⟩
      rw [Int.toNat_natCast, getD_get _ _ _ g]
      have hm := List.getElem_mem g
      by_cases hc : sc[i].length ≤ 8
      · refine cond_f (by simp; omega) ⟨⟨sc[i].length + 1, ?_⟩⟩
        refine v2_loop hc (hb _ hm) (fun ho => ?_) (fun ho c j hc0 => h2 (fun ha => ho (ha _ hm).2) c j hc0) (sc[i].length + 1) 0 (by omega) (by omega) (by simp)
        rw [i64_succ (by omega)]
        refine v3_loop hl hb h1 h2 fu (i + 1) g (by omega) fun l hn => ?_
        rw [List.take_add_one, List.getElem?_eq_getElem g, List.mem_append] at hn
        rcases hn with hn | hn
        · exact hp l hn
        · simp only [Option.toList_some, List.mem_singleton] at hn
          rw [hn]
          exact ⟨hc, ho⟩
      · exact cond_t (by simp; omega) (h2 (fun ha => hc (ha _ hm).1) 2 _ (by decide))
    · obtain rfl : i = sc.length := by omega
      rw [List.take_length] at hp
      exact cond_f (by simp) (h1 hp)

theorem validate_ok {caps : List Int} {sc : List (List Op)} (hb : ∀ l, l ∈ sc → ∀ o, o ∈ l → o.2.2.2.2.length ≤ 9223372036854775807) {K : Int → Int → Prop} (h1 : Valid caps sc → K 0 0) (h2 : ¬ Valid caps sc → ∀ c i, c ≠ 0 → K c i) : L.deadline_Validate caps sc K := by
  constructor
  unfold L.deadline_Validate_B
  by_cases hc : caps.length ≤ 4
  · refine cond_f (by simp; omega) ?_
    by_cases hs : sc.length ≤ 5
    · refine cond_f (by simp; omega) ⟨⟨caps.length + 1, ?_⟩⟩
      refine v1_loop hc (fun ha => ⟨⟨sc.length + 1, ?_⟩⟩) (fun ha c i hc0 => h2 (fun hv => ha hv.cap) c i hc0) (caps.length + 1) 0 (by omega) (by omega) (by simp)
      exact v3_loop hs hb (fun ho => h1 ⟨hc, hs, ha, fun l hl => (ho l hl).1, fun l hl => (ho l hl).2⟩) (fun ho c i hc0 => h2 (fun hv => ho fun l hl => ⟨hv.len l hl, hv.ops l hl⟩) c i hc0) (sc.length + 1) 0 (by omega) (by omega) (by simp)
    · exact cond_t (by simp; omega) (h2 (fun hv => hs hv.ns) 2 _ (by decide))
  · exact cond_t (by simp; omega) (h2 (fun hv => hc hv.nc) 2 _ (by decide))

end Dl
end Go.Proofs.Ytfkhdfmnhkndeaa

/-
  What Validate computes. Conditions: none.
-/
import Derived.Test.YtfkhdfmnhkndeaaDlC
namespace Go.Proofs.Ytfkhdfmnhkndeaa
open Eng
namespace Dl

def goodC (n : Nat) (c : Int) : Prop := 0 ≤ c ∧ c < n

theorem wrong_ok {n : Nat} {c : Int} {K : Bool → Prop} (h1 : goodC n c → K false) (h2 : ¬ goodC n c → K true) : L.deadline_checkOp_1_v1 c n K := by
  constructor
  unfold L.deadline_checkOp_1_v1_B
  by_cases h : goodC n c
  · have e : (bif (decide (c < 0)) then true else (decide (c ≥ n))) = false := by unfold goodC at h; simp; omega
    rw [e]
    exact h1 h
  · have e : (bif (decide (c < 0)) then true else (decide (c ≥ n))) = true := by unfold goodC at h; simp; omega
    rw [e]
    exact h2 h

theorem cont_loop {n : Nat} {cs : List Int} (hl : cs.length ≤ 9223372036854775807) {K0 : Prop} {Kr : Int → Prop} (h1 : (∀ c, c ∈ cs → goodC n c) → K0) (h2 : ∀ i : Nat, ¬ (∀ c, c ∈ cs → goodC n c) → Kr i) :
    ∀ (fu i : Nat), i ≤ cs.length → cs.length - i < fu → (∀ c, c ∈ cs.take i → goodC n c) → L.slices_IndexFunc_v3_L1_R cs n cs.length fu i K0 Kr
  | 0, i, _, h, _ => by omega
  | fu + 1, i, hi, h, hp => by
    show L.slices_IndexFunc_v3_L1_b cs n cs.length i _ K0 Kr
    unfold L.slices_IndexFunc_v3_L1_b
    rcases Nat.lt_or_ge i cs.length with g | g
    · refine cond_t (by simp; omega) ⟨⟨by omega, by omega⟩, ?_⟩
      rw [Int.toNat_natCast, getD_get _ _ _ g]
      refine wrong_ok (fun hg => cond_f rfl ?_) fun hg => cond_t rfl (h2 i fun ha => hg (ha _ (List.getElem_mem g)))
      rw [i64_succ (by omega)]
      refine cont_loop hl h1 h2 fu (i + 1) g (by omega) fun c hc => ?_
      rw [List.take_add_one, List.getElem?_eq_getElem g, List.mem_append] at hc
      rcases hc with hc | hc
      · exact hp c hc
      · simp only [Option.toList_some, List.mem_singleton] at hc
        rw [hc]
        exact hg
    · obtain rfl : i = cs.length := by omega
      rw [List.take_length] at hp
      exact cond_f (by simp) (h1 hp)

theorem cont_ok {n : Nat} {cs : List Int} (hl : cs.length ≤ 9223372036854775807) {K : Bool → Prop} (h1 : (∀ c, c ∈ cs → goodC n c) → K false) (h2 : ¬ (∀ c, c ∈ cs → goodC n c) → K true) : L.slices_ContainsFunc_v2 cs n K := by
  refine ⟨⟨⟨⟨cs.length + 1, ?_⟩⟩⟩⟩
  exact cont_loop hl (fun h => h1 h) (fun i h => by
    have e : decide ((i : Int) ≥ 0) = true := decide_eq_true (by omega)
    show K (decide ((i : Int) ≥ 0))
    rw [e]
    exact h2 h) (cs.length + 1) 0 (by omega) (by omega) (by simp)

/-- In range, but for the channel. -/
def InRg (n : Nat) (o : Op) : Prop := (∀ c, c ∈ o.2.2.2.2 → goodC n c) ∧ (0 ≤ o.2.2.1 ∧ o.2.2.1 ≤ 1000000000) ∧ (if o.1 = 3 then -1 else 0) ≤ o.2.2.2.1 ∧ o.2.2.2.1 ≤ 60

def Mal (o : Op) : Prop := (o.2.1 ≠ 0 ∧ 2 < o.1) ∨ (o.2.2.1 ≠ 0 ∧ o.1 ≠ 1) ∨ (o.2.2.2.1 ≠ 0 ∧ o.1 ≤ 2) ∨ (o.2.2.2.2 ≠ [] ∧ o.1 ≠ 3)

open Classical in
/-- The code of an operation. -/
noncomputable def opF (n : Nat) (o : Op) : Int :=
  if ¬ (1 ≤ o.1 ∧ o.1 ≤ 4) then 4 else if Mal o then 5 else if (o.1 ≤ 2 ∧ ¬ goodC n o.2.1) ∨ ¬ InRg n o then 3 else if ¬ o.2.2.2.2.length ≤ 4 then 2 else 0

theorem opF_zero {n : Nat} {o : Op} : opF n o = 0 ↔ OpOk n o := by
  unfold opF
  split
  · next h => exact ⟨fun e => by simp at e, fun ho => absurd ho.kind h⟩
  next hk =>
  split
  · next h =>
    refine ⟨fun e => by simp at e, fun ho => ?_⟩
    rcases h with ⟨a, b⟩ | ⟨a, b⟩ | ⟨a, b⟩ | ⟨a, b⟩
    · exact absurd (ho.chan0 b) a
    · exact absurd (ho.val0 b) a
    · exact absurd (ho.wait0 b) a
    · exact absurd (ho.chans0 b) a
  next hm =>
  have ok : (o.1 ≤ 2 → goodC n o.2.1) → InRg n o → o.2.2.2.2.length ≤ 4 → OpOk n o := fun a b c => by
    obtain ⟨b1, b2, b3, b4⟩ := b
    refine ⟨Classical.not_not.1 hk, a, fun h => Classical.not_not.1 fun e => hm (.inl ⟨e, h⟩), b2, fun h => Classical.not_not.1 fun e => hm (.inr (.inl ⟨e, h⟩)), fun h => Classical.not_not.1 fun e => hm (.inr (.inr (.inl ⟨e, h⟩))), ⟨b4, ?_, fun h => ?_⟩, b1, c, fun h => Classical.not_not.1 fun e => hm (.inr (.inr (.inr ⟨e, h⟩)))⟩
    · split at b3 <;> omega
    · rw [if_neg h] at b3; omega
  have rg : OpOk n o → InRg n o := fun ho => ⟨ho.chans, ho.val, by
    have := ho.wait
    split
    · omega
    · next h3 => exact this.2.2 h3, ho.wait.1⟩
  split
  · next h =>
    refine ⟨fun e => by simp at e, fun ho => ?_⟩
    rcases h with h | h
    · exact absurd (ho.chan h.1) h.2
    · exact absurd (rg ho) h
  next hr =>
  have hr1 : o.1 ≤ 2 → goodC n o.2.1 := fun h => Classical.not_not.1 fun e => hr (.inl ⟨h, e⟩)
  have hr2 : InRg n o := Classical.not_not.1 fun e => hr (.inr e)
  split
  · next h => exact ⟨fun e => by simp at e, fun ho => absurd ho.few h⟩
  · next h => exact ⟨fun _ => ok hr1 hr2 (Classical.not_not.1 h), fun _ => rfl⟩

theorem j3_ok {n : Nat} {o : Op} (hl : o.2.2.2.2.length ≤ 9223372036854775807) {least : Int} (hle : least = if o.1 = 3 then -1 else 0) {v : Bool} {K : Int → Prop} (h3 : v = true ∨ ¬ InRg n o → K 3) (h2 : v = false → InRg n o → ¬ o.2.2.2.2.length ≤ 4 → K 2) (h0 : v = false → InRg n o → o.2.2.2.2.length ≤ 4 → K 0) :
    L.deadline_checkOp_J3 least v o.2.2.1 o.2.2.2.1 o.2.2.2.2 n (fun v => L.deadline_checkOp_J2 v o.2.2.2.2 (K 0) K) := by
  constructor
  unfold L.deadline_checkOp_J3_B
  cases v with
  | true => exact ⟨h3 (.inl rfl)⟩
  | false =>
    refine cond_f rfl (cont_ok hl (fun hc => cond_f rfl ?_) fun hc => cond_t rfl ⟨h3 (.inr fun h => hc h.1)⟩)
    by_cases h1 : 0 ≤ o.2.2.1 ∧ o.2.2.1 ≤ 1000000000
    · have e : (bif (decide (o.2.2.1 < 0)) then true else (decide (o.2.2.1 > 1000000000))) = false := by simp; omega
      refine cond_f e ⟨?_⟩
      unfold L.deadline_checkOp_J2_B
      by_cases hw : least ≤ o.2.2.2.1 ∧ o.2.2.2.1 ≤ 60
      · have e : (bif (decide (o.2.2.2.1 < least)) then true else (decide (o.2.2.2.1 > 60))) = false := by simp; omega
        rw [e]
        have hg : InRg n o := ⟨hc, h1, by rw [← hle]; exact hw.1, hw.2⟩
        refine cond_f rfl ?_
        by_cases h4 : o.2.2.2.2.length ≤ 4
        · exact cond_f (by simp; omega) (h0 rfl hg h4)
        · exact cond_t (by simp; omega) (h2 rfl hg h4)
      · have e : (bif (decide (o.2.2.2.1 < least)) then true else (decide (o.2.2.2.1 > 60))) = true := by simp; omega
        rw [e]
        exact cond_t rfl (h3 (.inr fun h => hw ⟨by rw [hle]; exact h.2.2.1, h.2.2.2⟩))
    · have e : (bif (decide (o.2.2.1 < 0)) then true else (decide (o.2.2.1 > 1000000000))) = true := by simp; omega
      refine cond_t e ?_
      rw [e]
      exact ⟨cond_t rfl (h3 (.inr fun h => h1 h.2.1))⟩

theorem j6_ok {n : Nat} {o : Op} (hl : o.2.2.2.2.length ≤ 9223372036854775807) {least : Int} (hle : least = if o.1 = 3 then -1 else 0) {v : Bool} {K : Int → Prop} (hk : 1 ≤ o.1 ∧ o.1 ≤ 4) (hv : v = true ↔ Mal o) (h : K (opF n o)) :
    L.deadline_checkOp_J6 (o.1 == 1) (o.1 == 2) least v o.2.1 o.2.2.1 o.2.2.2.1 o.2.2.2.2 n (K 0) K := by
  constructor
  unfold L.deadline_checkOp_J6_B
  unfold opF at h
  rw [if_neg (fun g => g hk)] at h
  cases v with
  | true =>
    rw [if_pos (hv.1 rfl)] at h
    exact h
  | false =>
    rw [if_neg (fun g => by simpa using hv.2 g)] at h
    refine cond_f rfl ?_
    have fin : ∀ w : Bool, (w = true ↔ (o.1 ≤ 2 ∧ ¬ goodC n o.2.1)) → L.deadline_checkOp_J3 least w o.2.2.1 o.2.2.2.1 o.2.2.2.2 n (fun v => L.deadline_checkOp_J2 v o.2.2.2.2 (K 0) K) := by
      intro w hw
      refine j3_ok hl hle (fun g => ?_) (fun g1 g2 g3 => ?_) (fun g1 g2 g3 => ?_)
      · rw [if_pos (g.imp hw.1 id)] at h
        exact h
      · rw [if_neg (fun g => g.elim (fun g => by rw [hw.2 g] at g1; cases g1) fun g => g g2), if_pos g3] at h
        exact h
      · rw [if_neg (fun g => g.elim (fun g => by rw [hw.2 g] at g1; cases g1) fun g => g g2), if_neg (fun g => g g3)] at h
        exact h
    by_cases h12 : o.1 = 1 ∨ o.1 = 2
    · refine cond_t ?_ (wrong_ok (fun hg => ?_) fun hg => ?_)
      · rcases h12 with h | h <;> simp [h]
      · exact fin false ⟨fun e => (by cases e), fun g => absurd hg g.2⟩
      · exact fin true ⟨fun _ => ⟨by omega, hg⟩, fun _ => rfl⟩
    · refine cond_f ?_ (fin false ⟨fun e => (by cases e), fun g => by omega⟩)
      have a1 : (o.1 == 1) = false := beq_eq_false_iff_ne.2 (by omega)
      have a2 : (o.1 == 2) = false := beq_eq_false_iff_ne.2 (by omega)
      rw [a1, a2]
      rfl

theorem checkOp_ok {n : Nat} {o : Op} (hl : o.2.2.2.2.length ≤ 9223372036854775807) {K : Int → Prop} (h : K (opF n o)) :
    L.deadline_checkOp o.1 o.2.1 o.2.2.1 o.2.2.2.1 o.2.2.2.2 n K := by
  have j5 : ∀ least : Int, least = (if o.1 = 3 then -1 else 0) → L.deadline_checkOp_J5 (o.1 == 1) (o.1 == 2) (o.1 == 3) (o.1 == 4) least o.2.1 o.2.2.1 o.2.2.2.1 o.2.2.2.2 n K := by
    intro least hle
    constructor
    unfold L.deadline_checkOp_J5_B
    by_cases hk : 1 ≤ o.1 ∧ o.1 ≤ 4
    · have hk' : o.1 = 1 ∨ o.1 = 2 ∨ o.1 = 3 ∨ o.1 = 4 := by omega
      refine cond_f ?_ ?_
      · rcases hk' with h | h | h | h <;> simp [h]
      · have e1 : (bif (bif (o.2.1 != 0) then (!(o.1 == 1)) else false) then (!(o.1 == 2)) else false) = decide (o.2.1 ≠ 0 ∧ 2 < o.1) := by
          by_cases a : o.2.1 = 0
          · simp [a]
          · rcases hk' with h | h | h | h <;> simp [h, a]
        have e2 : (bif (o.2.2.1 != 0) then (!(o.1 == 1)) else false) = decide (o.2.2.1 ≠ 0 ∧ o.1 ≠ 1) := by
          by_cases a : o.2.2.1 = 0
          · simp [a]
          · rcases hk' with h | h | h | h <;> simp [h, a]
        have e3 : (bif (bif (o.2.2.2.1 != 0) then (!(o.1 == 3)) else false) then (!(o.1 == 4)) else false) = decide (o.2.2.2.1 ≠ 0 ∧ o.1 ≤ 2) := by
          by_cases a : o.2.2.2.1 = 0
          · simp [a]
          · rcases hk' with h | h | h | h <;> simp [h, a]
        have e4 : (bif (decide ((o.2.2.2.2.length : Int) > 0)) then (!(o.1 == 3)) else false) = decide (o.2.2.2.2 ≠ [] ∧ o.1 ≠ 3) := by
          by_cases a : o.2.2.2.2 = []
          · simp [a]
          · have : 0 < o.2.2.2.2.length := List.length_pos_iff.2 a
            have : decide ((o.2.2.2.2.length : Int) > 0) = true := decide_eq_true (by omega)
            rw [this]
            rcases hk' with h | h | h | h <;> simp [h, a]
        rw [e1, e2, e3, e4]
        by_cases c1 : o.2.1 ≠ 0 ∧ 2 < o.1
        · rw [decide_eq_true c1]
          exact cond_t rfl (j6_ok hl hle hk ⟨fun _ => .inl c1, fun _ => rfl⟩ h)
        rw [decide_eq_false c1]
        refine cond_f rfl ?_
        by_cases c2 : o.2.2.1 ≠ 0 ∧ o.1 ≠ 1
        · rw [decide_eq_true c2]
          exact cond_t rfl (j6_ok hl hle hk ⟨fun _ => .inr (.inl c2), fun _ => rfl⟩ h)
        rw [decide_eq_false c2]
        refine cond_f rfl ?_
        by_cases c3 : o.2.2.2.1 ≠ 0 ∧ o.1 ≤ 2
        · rw [decide_eq_true c3]
          exact cond_t rfl (j6_ok hl hle hk ⟨fun _ => .inr (.inr (.inl c3)), fun _ => rfl⟩ h)
        rw [decide_eq_false c3]
        exact cond_f rfl (j6_ok hl hle hk ⟨fun e => .inr (.inr (.inr (of_decide_eq_true e))), fun g => g.elim (fun g => absurd g c1) fun g => g.elim (fun g => absurd g c2) fun g => g.elim (fun g => absurd g c3) fun g => decide_eq_true g⟩ h)
    · unfold opF at h
      rw [if_pos hk] at h
      refine cond_t ?_ h
      have a1 : (o.1 == 1) = false := beq_eq_false_iff_ne.2 (by omega)
      have a2 : (o.1 == 2) = false := beq_eq_false_iff_ne.2 (by omega)
      have a3 : (o.1 == 3) = false := beq_eq_false_iff_ne.2 (by omega)
      have a4 : (o.1 == 4) = false := beq_eq_false_iff_ne.2 (by omega)
      rw [a1, a2, a3, a4]
      rfl
  constructor
  unfold L.deadline_checkOp_B
  by_cases h3 : o.1 = 3
  · exact cond_t (beq_iff_eq.2 h3) (j5 (-1) (by rw [if_pos h3]))
  · exact cond_f (beq_eq_false_iff_ne.2 h3) (j5 0 (by rw [if_neg h3]))

/-- Valid channels and scripts. -/
structure Valid (caps : List Int) (sc : List (List Op)) : Prop where
  nc : caps.length ≤ 4
  ns : sc.length ≤ 5
  cap : ∀ n, n ∈ caps → 1 ≤ n ∧ n ≤ 4
  len : ∀ l, l ∈ sc → l.length ≤ 8
  ops : ∀ l, l ∈ sc → ∀ o, o ∈ l → OpOk caps.length o

/-- The fault of an operation list, of the scripts from the i-th on, of the capacities from the i-th on. -/
noncomputable def opsF (n : Nat) : List Op → Int
  | [] => 0
  | o :: l => bif opF n o == 0 then opsF n l else opF n o

noncomputable def scF (n : Nat) : Nat → List (List Op) → Int × Int
  | _, [] => (0, 0)
  | i, l :: sc => bif decide (l.length > 8) then (2, (i : Int)) else bif opsF n l == 0 then scF n (i + 1) sc else (opsF n l, (i : Int))

def capF : Nat → List Int → Option Int
  | _, [] => none
  | i, c :: cs => bif decide (1 ≤ c ∧ c ≤ 4) then capF (i + 1) cs else some (-3 - (i : Int))

noncomputable def valF (caps : List Int) (sc : List (List Op)) : Int × Int :=
  bif decide (caps.length > 4) then (2, -1) else bif decide (sc.length > 5) then (2, -2) else match capF 0 caps with
    | some i => (3, i)
    | none => scF caps.length 0 sc

theorem opsF_zero {n : Nat} : ∀ {l : List Op}, opsF n l = 0 ↔ ∀ o, o ∈ l → OpOk n o
  | [] => ⟨fun _ o ho => by simp at ho, fun _ => rfl⟩
  | o :: l => by
    unfold opsF
    cases h : opF n o == 0 with
    | true =>
      have ho := opF_zero.1 (beq_iff_eq.1 h)
      rw [cond_true, opsF_zero]
      exact ⟨fun g x hx => (List.mem_cons.1 hx).elim (fun e => e ▸ ho) (g x), fun g x hx => g x (List.mem_cons_of_mem _ hx)⟩
    | false =>
      have ho := fun g => beq_eq_false_iff_ne.1 h (opF_zero.2 g)
      rw [cond_false, opF_zero]
      exact ⟨fun g => absurd g ho, fun g => g o (by simp)⟩

theorem scF_zero {n : Nat} : ∀ {sc : List (List Op)} {i : Nat}, (scF n i sc).1 = 0 ↔ ∀ l, l ∈ sc → l.length ≤ 8 ∧ ∀ o, o ∈ l → OpOk n o
  | [], i => ⟨fun _ o ho => by simp at ho, fun _ => rfl⟩
  | l :: sc, i => by
    unfold scF
    by_cases h8 : l.length > 8
    · rw [decide_eq_true h8]
      exact ⟨fun g => by simp at g, fun g => absurd (g l (by simp)).1 (by omega)⟩
    · rw [decide_eq_false h8]
      cases h : opsF n l == 0 with
      | true =>
        have ho := opsF_zero.1 (beq_iff_eq.1 h)
        rw [cond_false, cond_true, scF_zero]
        exact ⟨fun g x hx => (List.mem_cons.1 hx).elim (fun e => e ▸ ⟨by omega, ho⟩) (g x), fun g x hx => g x (List.mem_cons_of_mem _ hx)⟩
      | false =>
        have ho := beq_eq_false_iff_ne.1 h
        exact ⟨fun g => absurd g ho, fun g => absurd (opsF_zero.2 (g l (by simp)).2) ho⟩

theorem capF_none : ∀ {cs : List Int} {i : Nat}, capF i cs = none ↔ ∀ n, n ∈ cs → 1 ≤ n ∧ n ≤ 4
  | [], i => ⟨fun _ o ho => by simp at ho, fun _ => rfl⟩
  | c :: cs, i => by
    unfold capF
    by_cases h : 1 ≤ c ∧ c ≤ 4
    · rw [decide_eq_true h, cond_true, capF_none]
      exact ⟨fun g x hx => (List.mem_cons.1 hx).elim (fun e => e ▸ h) (g x), fun g x hx => g x (List.mem_cons_of_mem _ hx)⟩
    · rw [decide_eq_false h]
      exact ⟨fun g => by simp at g, fun g => absurd (g c (by simp)) h⟩

theorem valF_zero {caps : List Int} {sc : List (List Op)} : (valF caps sc).1 = 0 ↔ Valid caps sc := by
  unfold valF
  by_cases h4 : caps.length > 4
  · rw [decide_eq_true h4]
    exact ⟨fun g => by simp at g, fun g => absurd g.nc (by omega)⟩
  rw [decide_eq_false h4]
  by_cases h5 : sc.length > 5
  · rw [decide_eq_true h5]
    exact ⟨fun g => by simp at g, fun g => absurd g.ns (by omega)⟩
  rw [decide_eq_false h5]
  simp only [cond_false]
  split
  · next i hi =>
    refine ⟨fun g => by simp at g, fun g => ?_⟩
    rw [capF_none.2 g.cap] at hi
    cases hi
  · next hi =>
    rw [scF_zero]
    exact ⟨fun g => ⟨by omega, by omega, capF_none.1 hi, fun l hl => (g l hl).1, fun l hl => (g l hl).2⟩, fun g l hl => ⟨g.len l hl, g.ops l hl⟩⟩

theorem v1_loop {caps : List Int} (hl : caps.length ≤ 4) {K0 : Prop} {Kr : Int → Int → Prop} (h1 : capF 0 caps = none → K0) (h2 : ∀ x, capF 0 caps = some x → Kr 3 x) :
    ∀ (fu i : Nat), i ≤ caps.length → caps.length - i < fu → capF 0 caps = capF i (caps.drop i) → L.deadline_Validate_L1_R caps caps.length fu i K0 Kr
  | 0, i, _, h, _ => by omega
  | fu + 1, i, hi, h, hp => by
    show L.deadline_Validate_L1_b caps caps.length i _ K0 Kr
    unfold L.deadline_Validate_L1_b
    rcases Nat.lt_or_ge i caps.length with g | g
    · refine cond_t (by simp; omega) ⟨⟨by omega, by omega⟩, ?_⟩
      rw [Int.toNat_natCast, getD_get _ _ _ g]
      rw [List.drop_eq_getElem_cons g, capF] at hp
      by_cases hc : 1 ≤ caps[i] ∧ caps[i] ≤ 4
      · refine cond_f (by simp; omega) ?_
        rw [i64_succ (by omega)]
        rw [decide_eq_true hc] at hp
        exact v1_loop hl h1 h2 fu (i + 1) g (by omega) hp
      · rw [decide_eq_false hc] at hp
        refine cond_t (by simp; omega) ?_
        rw [i64_id (by omega) (by omega)]
        exact h2 _ hp
    · obtain rfl : i = caps.length := by omega
      rw [List.drop_length] at hp
      exact cond_f (by simp) (h1 hp)

theorem v2_loop {caps : List Int} {l : List Op} (hl : l.length ≤ 8) (hb : ∀ o, o ∈ l → o.2.2.2.2.length ≤ 9223372036854775807) {x : Int} {K0 : Prop} {Kr : Int → Int → Prop} (h1 : opsF caps.length l = 0 → K0) (h2 : opsF caps.length l ≠ 0 → Kr (opsF caps.length l) x) :
    ∀ (fu i : Nat), i ≤ l.length → l.length - i < fu → opsF caps.length l = opsF caps.length (l.drop i) → L.deadline_Validate_L2_R caps x l l.length fu i K0 Kr
  | 0, i, _, h, _ => by omega
  | fu + 1, i, hi, h, hp => by
    show L.deadline_Validate_L2_b caps x l l.length i _ K0 Kr
    unfold L.deadline_Validate_L2_b
    rcases Nat.lt_or_ge i l.length with g | g
    · refine cond_t (by simp; omega) ⟨⟨by omega, by omega⟩, ?_⟩
      rw [Int.toNat_natCast, getD_get _ _ _ g]
      rw [List.drop_eq_getElem_cons g, opsF] at hp
      refine checkOp_ok (hb _ (List.getElem_mem g)) ?_
      by_cases hz : opF caps.length l[i] = 0
      · rw [beq_iff_eq.2 hz] at hp
        refine cond_f (by rw [hz]; rfl) ?_
        rw [i64_succ (by omega)]
        exact v2_loop hl hb h1 h2 fu (i + 1) g (by omega) hp
      · rw [beq_eq_false_iff_ne.2 hz] at hp
        refine cond_t (bne_iff_ne.2 hz) ?_
        have hp' : opsF caps.length l = opF caps.length l[i] := hp
        rw [← hp']
        exact h2 (by rw [hp']; exact hz)
    · obtain rfl : i = l.length := by omega
      rw [List.drop_length] at hp
      exact cond_f (by simp) (h1 hp)

theorem v3_loop {caps : List Int} {sc : List (List Op)} (hl : sc.length ≤ 5) (hb : ∀ l, l ∈ sc → ∀ o, o ∈ l → o.2.2.2.2.length ≤ 9223372036854775807) {K0 : Prop} {Kr : Int → Int → Prop}
    (h1 : (scF caps.length 0 sc) = (0, 0) → K0) (h2 : (scF caps.length 0 sc).1 ≠ 0 → Kr (scF caps.length 0 sc).1 (scF caps.length 0 sc).2) :
    ∀ (fu i : Nat), i ≤ sc.length → sc.length - i < fu → scF caps.length 0 sc = scF caps.length i (sc.drop i) → L.deadline_Validate_L3_R caps sc sc.length fu i K0 Kr
  | 0, i, _, h, _ => by omega
  | fu + 1, i, hi, h, hp => by
    show L.deadline_Validate_L3_b caps sc sc.length i _ K0 Kr
    unfold L.deadline_Validate_L3_b
    rcases Nat.lt_or_ge i sc.length with g | g
    · refine cond_t (by simp; omega) ⟨⟨by omega, by omega⟩, ?_⟩
      rw [Int.toNat_natCast, getD_get _ _ _ g]
      have hm := List.getElem_mem g
      rw [List.drop_eq_getElem_cons g, scF] at hp
      by_cases hc : sc[i].length > 8
      · rw [decide_eq_true hc, cond_true] at hp
        rw [hp] at h2
        exact cond_t (by simp; omega) (h2 (by simp))
      · rw [decide_eq_false hc, cond_false] at hp
        refine cond_f (by simp; omega) ⟨⟨sc[i].length + 1, ?_⟩⟩
        refine v2_loop (by omega) (hb _ hm) (fun ho => ?_) (fun ho => ?_) (sc[i].length + 1) 0 (by omega) (by omega) rfl
        · rw [beq_iff_eq.2 ho, cond_true] at hp
          rw [i64_succ (by omega)]
          exact v3_loop hl hb h1 h2 fu (i + 1) g (by omega) hp
        · rw [beq_eq_false_iff_ne.2 ho, cond_false] at hp
          rw [hp] at h2
          exact h2 ho
    · obtain rfl : i = sc.length := by omega
      rw [List.drop_length] at hp
      exact cond_f (by simp) (h1 hp)

theorem validate_ok {caps : List Int} {sc : List (List Op)} (hb : ∀ l, l ∈ sc → ∀ o, o ∈ l → o.2.2.2.2.length ≤ 9223372036854775807) {K : Int → Int → Prop} (h1 : Valid caps sc → valF caps sc = (0, 0) → K 0 0) (h2 : ¬ Valid caps sc → (valF caps sc).1 ≠ 0 → K (valF caps sc).1 (valF caps sc).2) : L.deadline_Validate caps sc K := by
  constructor
  unfold L.deadline_Validate_B
  have hz := valF_zero (caps := caps) (sc := sc)
  have h2' := fun g : (valF caps sc).1 ≠ 0 => h2 (fun hv => g (hz.2 hv)) g
  unfold valF at h1 h2' hz
  by_cases hc : caps.length > 4
  · rw [decide_eq_true hc] at h2'
    exact cond_t (by simp; omega) (h2' (by simp))
  rw [decide_eq_false hc] at h1 h2' hz
  refine cond_f (by simp; omega) ?_
  by_cases hs : sc.length > 5
  · rw [decide_eq_true hs] at h2'
    exact cond_t (by simp; omega) (h2' (by simp))
  rw [decide_eq_false hs] at h1 h2' hz
  simp only [cond_false] at h1 h2' hz
  refine cond_f (by simp; omega) ⟨⟨caps.length + 1, ?_⟩⟩
  refine v1_loop (by omega) (fun ha => ⟨⟨sc.length + 1, ?_⟩⟩) (fun x ha => ?_) (caps.length + 1) 0 (by omega) (by omega) rfl
  · rw [ha] at h2'
    exact h2' (by simp)
  · rw [ha] at h1 h2' hz
    exact v3_loop (by omega) hb (fun ho => h1 (hz.1 (by simp only [ho])) ho) h2' (sc.length + 1) 0 (by omega) (by omega) rfl

end Dl
end Go.Proofs.Ytfkhdfmnhkndeaa

/-
  The specification's faults. Conditions: none.
-/
import Derived.Test.YtfkhdfmnhkndeaaDmH
set_option linter.unusedVariables false
set_option linter.unusedSimpArgs false
namespace Go.Proofs.Ytfkhdfmnhkndeaa
open Eng
namespace Dl

theorem oc_loop {n : Nat} {cs : List Int} (hl : cs.length ≤ 9223372036854775807) {K0 : Prop} {Kr : Int → Prop} (h1 : (∀ c, c ∈ cs → goodC n c) → K0) (h2 : ¬ (∀ c, c ∈ cs → goodC n c) → Kr 3) :
    ∀ (fu i : Nat), i ≤ cs.length → cs.length - i < fu → (∀ c, c ∈ cs.take i → goodC n c) → L.ref8_OpCode_L1_R n cs fu i K0 Kr
  | 0, i, _, h, hp => by omega
  | fu + 1, i, hi, h, hp => by
    show L.ref8_OpCode_L1_b n cs i _ K0 Kr
    unfold L.ref8_OpCode_L1_b
    rcases Nat.lt_or_ge i cs.length with g | g
    · rw [Int.toNat_natCast, getD_get _ _ _ g]
      have bs : inB (i : Int) cs.length := ⟨by omega, by omega⟩
      refine cond_t (by simp; omega) ⟨bs, fun _ => bs, ?_⟩
      by_cases hg : goodC n cs[i]
      · refine cond_f (by unfold goodC at hg; simp; omega) ?_
        rw [i64_succ (by omega)]
        refine oc_loop hl h1 h2 fu (i + 1) g (by omega) fun c hc => ?_
        rw [List.take_add_one, List.getElem?_eq_getElem g, List.mem_append] at hc
        rcases hc with hc | hc
        · exact hp c hc
        · simp only [Option.toList_some, List.mem_singleton] at hc
          rw [hc]
          exact hg
      · exact cond_t (by unfold goodC at hg; simp; omega) (h2 fun ha => hg (ha _ (List.getElem_mem g)))
    · obtain rfl : i = cs.length := by omega
      rw [List.take_length] at hp
      exact cond_f (by simp) (h1 hp)

theorem opcode_ok {n : Nat} {o : Op} (hl : o.2.2.2.2.length ≤ 9223372036854775807) {K : Int → Prop} (h : K (opF n o)) : L.ref8_OpCode o.1 o.2.1 o.2.2.1 o.2.2.2.1 o.2.2.2.2 n K := by
  constructor
  unfold L.ref8_OpCode_B
  unfold opF at h
  by_cases hk : 1 ≤ o.1 ∧ o.1 ≤ 4
  · rw [if_neg (fun g => g hk)] at h
    refine cond_f (by simp; omega) ?_
    have em : (bif (bif (bif (bif (!(decide (o.1 < 3))) then (o.2.1 != 0) else false) then true else (bif (o.1 != 1) then (o.2.2.1 != 0) else false)) then true else (bif (decide (o.1 < 3)) then (o.2.2.2.1 != 0) else false)) then true else (bif (o.1 != 3) then (decide ((o.2.2.2.2.length : Int) > 0)) else false)) = true ↔ Mal o := by
      have el : (o.2.2.2.2 ≠ [] ∧ o.1 ≠ 3) ↔ (0 < o.2.2.2.2.length ∧ o.1 ≠ 3) := by rw [List.length_pos_iff]
      unfold Mal
      rw [el]
      generalize o.2.2.2.2.length = len
      simp [Bool.cond_eq_ite]
      omega
    by_cases hm : Mal o
    · rw [if_pos hm] at h
      exact cond_t (em.2 hm) h
    · rw [if_neg hm] at h
      refine cond_f (by rw [Bool.eq_false_iff]; exact fun g => hm (em.1 g)) ?_
      have er : (bif (bif (bif (bif (bif (bif (decide (o.1 < 3)) then (bif (decide (o.2.1 < 0)) then true else (decide (o.2.1 ≥ (n : Int)))) else false) then true else (decide (o.2.2.1 < 0))) then true else (decide (o.2.2.1 > 1000000000))) then true else (decide (o.2.2.2.1 > 60))) then true else (decide (o.2.2.2.1 < (-1)))) then true else (bif (o.2.2.2.1 == (-1)) then (o.1 != 3) else false)) = true ↔
          ((o.1 ≤ 2 ∧ ¬ goodC n o.2.1) ∨ ¬ ((0 ≤ o.2.2.1 ∧ o.2.2.1 ≤ 1000000000) ∧ (if o.1 = 3 then -1 else 0) ≤ o.2.2.2.1 ∧ o.2.2.2.1 ≤ 60)) := by
        unfold goodC
        simp [Bool.cond_eq_ite]
        split <;> omega
      by_cases hr : (o.1 ≤ 2 ∧ ¬ goodC n o.2.1) ∨ ¬ ((0 ≤ o.2.2.1 ∧ o.2.2.1 ≤ 1000000000) ∧ (if o.1 = 3 then -1 else 0) ≤ o.2.2.2.1 ∧ o.2.2.2.1 ≤ 60)
      · rw [if_pos (hr.imp id fun g1 g2 => g1 g2.2)] at h
        exact cond_t (er.2 hr) h
      · refine cond_f (by rw [Bool.eq_false_iff]; exact fun g => hr (er.1 g)) ⟨⟨o.2.2.2.2.length + 1, oc_loop hl (fun ha => ?_) (fun ha => ?_) (o.2.2.2.2.length + 1) 0 (by omega) (by omega) (by simp)⟩⟩
        · rw [if_neg (fun g => g.elim (fun g => hr (.inl g)) fun g => g ⟨ha, Classical.not_not.1 fun g' => hr (.inr g')⟩)] at h
          by_cases h4 : o.2.2.2.2.length ≤ 4
          · rw [if_neg (fun g => g h4)] at h
            exact cond_f (by simp; omega) h
          · rw [if_pos h4] at h
            exact cond_t (by simp; omega) h
        · rw [if_pos (.inr fun g => ha g.1)] at h
          exact h
  · rw [if_pos hk] at h
    exact cond_t (by simp; omega) h

theorem f1_loop {caps : List Int} (hl : caps.length ≤ 4) {K0 : Prop} {Kr : Int → Int → Prop} (h1 : capF 0 caps = none → K0) (h2 : ∀ x, capF 0 caps = some x → Kr 3 x) :
    ∀ (fu i : Nat), i ≤ caps.length → caps.length - i < fu → capF 0 caps = capF i (caps.drop i) → L.ref8_ProcessesFault_L1_R caps fu i K0 Kr
  | 0, i, _, h, _ => by omega
  | fu + 1, i, hi, h, hp => by
    show L.ref8_ProcessesFault_L1_b caps i _ K0 Kr
    unfold L.ref8_ProcessesFault_L1_b
    rcases Nat.lt_or_ge i caps.length with g | g
    · have bs : inB (i : Int) caps.length := ⟨by omega, by omega⟩
      refine cond_t (by simp; omega) ⟨bs, fun _ => bs, ?_⟩
      rw [Int.toNat_natCast, getD_get _ _ _ g]
      rw [List.drop_eq_getElem_cons g, capF] at hp
      by_cases hc : 1 ≤ caps[i] ∧ caps[i] ≤ 4
      · refine cond_f (by simp; omega) ?_
        rw [i64_succ (by omega)]
        rw [decide_eq_true hc] at hp
        exact f1_loop hl h1 h2 fu (i + 1) g (by omega) hp
      · rw [decide_eq_false hc] at hp
        refine cond_t (by simp; omega) ⟨?_⟩
        unfold L.ref8_Fault_B
        rw [i64_id (by omega) (by omega)]
        exact h2 _ hp
    · obtain rfl : i = caps.length := by omega
      rw [List.drop_length] at hp
      exact cond_f (by simp) (h1 hp)

theorem f2_loop {caps : List Int} {sc : List (List Op)} {x : Nat} (hx : x < sc.length) {l : List Op} (el : sc.getD x [] = l) (hl : l.length ≤ 8) (hb : ∀ o, o ∈ l → o.2.2.2.2.length ≤ 9223372036854775807) {K0 : Prop} {Kr : Int → Int → Prop} (h1 : opsF caps.length l = 0 → K0) (h2 : opsF caps.length l ≠ 0 → Kr (opsF caps.length l) x) :
    ∀ (fu i : Nat), i ≤ l.length → l.length - i < fu → opsF caps.length l = opsF caps.length (l.drop i) → L.ref8_ProcessesFault_L2_R caps sc x fu i K0 Kr
  | 0, i, _, h, _ => by omega
  | fu + 1, i, hi, h, hp => by
    show L.ref8_ProcessesFault_L2_b caps sc x i _ K0 Kr
    unfold L.ref8_ProcessesFault_L2_b
    rw [Int.toNat_natCast, el]
    have bx : inB (x : Int) sc.length := ⟨by omega, by omega⟩
    refine ⟨bx, ?_⟩
    rcases Nat.lt_or_ge i l.length with g | g
    · have bi : inB (i : Int) l.length := ⟨by omega, by omega⟩
      refine cond_t (by simp; omega) ⟨bx, bi, ?_⟩
      rw [Int.toNat_natCast, getD_get _ _ _ g]
      rw [List.drop_eq_getElem_cons g, opsF] at hp
      refine opcode_ok (hb _ (List.getElem_mem g)) ?_
      by_cases hz : opF caps.length l[i] = 0
      · rw [beq_iff_eq.2 hz] at hp
        refine cond_f (by rw [hz]; rfl) ?_
        rw [i64_succ (by omega)]
        exact f2_loop hx el hl hb h1 h2 fu (i + 1) g (by omega) hp
      · rw [beq_eq_false_iff_ne.2 hz] at hp
        refine cond_t (bne_iff_ne.2 hz) ⟨bx, bi, opcode_ok (hb _ (List.getElem_mem g)) ⟨?_⟩⟩
        unfold L.ref8_Fault_B
        have hp' : opsF caps.length l = opF caps.length l[i] := hp
        rw [← hp']
        exact h2 (by rw [hp']; exact hz)
    · obtain rfl : i = l.length := by omega
      rw [List.drop_length] at hp
      exact cond_f (by simp) (h1 hp)

theorem f3_loop {caps : List Int} {sc : List (List Op)} (hl : sc.length ≤ 5) (hb : Bd sc) {K0 : Prop} {Kr : Int → Int → Prop}
    (h1 : (scF caps.length 0 sc) = (0, 0) → K0) (h2 : (scF caps.length 0 sc).1 ≠ 0 → Kr (scF caps.length 0 sc).1 (scF caps.length 0 sc).2) :
    ∀ (fu i : Nat), i ≤ sc.length → sc.length - i < fu → scF caps.length 0 sc = scF caps.length i (sc.drop i) → L.ref8_ProcessesFault_L3_R caps sc fu i K0 Kr
  | 0, i, _, h, _ => by omega
  | fu + 1, i, hi, h, hp => by
    show L.ref8_ProcessesFault_L3_b caps sc i _ K0 Kr
    unfold L.ref8_ProcessesFault_L3_b
    rcases Nat.lt_or_ge i sc.length with g | g
    · refine cond_t (by simp; omega) ⟨⟨by omega, by omega⟩, ?_⟩
      have hm := List.getElem_mem g
      have eg : sc.getD i [] = sc[i] := getD_get _ _ _ g
      rw [Int.toNat_natCast, eg]
      rw [List.drop_eq_getElem_cons g, scF] at hp
      by_cases hc : sc[i].length > 8
      · rw [decide_eq_true hc, cond_true] at hp
        rw [hp] at h2
        exact cond_t (by simp; omega) ⟨h2 (by simp)⟩
      · rw [decide_eq_false hc, cond_false] at hp
        refine cond_f (by simp; omega) ⟨⟨sc[i].length + 1, ?_⟩⟩
        refine f2_loop g eg (by omega) (hb _ hm) (fun ho => ?_) (fun ho => ?_) (sc[i].length + 1) 0 (by omega) (by omega) rfl
        · rw [beq_iff_eq.2 ho, cond_true] at hp
          rw [i64_succ (by omega)]
          exact f3_loop hl hb h1 h2 fu (i + 1) g (by omega) hp
        · rw [beq_eq_false_iff_ne.2 ho, cond_false] at hp
          rw [hp] at h2
          exact h2 ho
    · obtain rfl : i = sc.length := by omega
      rw [List.drop_length] at hp
      exact cond_f (by simp) (h1 hp)

theorem fault_ok {caps : List Int} {sc : List (List Op)} (hb : Bd sc) {K : Int → Int → Prop} (h1 : Valid caps sc → valF caps sc = (0, 0) → K 0 0) (h2 : ¬ Valid caps sc → (valF caps sc).1 ≠ 0 → K (valF caps sc).1 (valF caps sc).2) : L.ref8_ProcessesFault caps sc K := by
  constructor
  unfold L.ref8_ProcessesFault_B
  have hz := valF_zero (caps := caps) (sc := sc)
  have h2' := fun g : (valF caps sc).1 ≠ 0 => h2 (fun hv => g (hz.2 hv)) g
  unfold valF at h1 h2' hz
  by_cases hc : caps.length > 4
  · rw [decide_eq_true hc] at h2'
    exact cond_t (by simp; omega) ⟨h2' (by simp)⟩
  rw [decide_eq_false hc] at h1 h2' hz
  refine cond_f (by simp; omega) ?_
  by_cases hs : sc.length > 5
  · rw [decide_eq_true hs] at h2'
    exact cond_t (by simp; omega) ⟨h2' (by simp)⟩
  rw [decide_eq_false hs] at h1 h2' hz
  simp only [cond_false] at h1 h2' hz
  refine cond_f (by simp; omega) ⟨⟨caps.length + 1, ?_⟩⟩
  refine f1_loop (by omega) (fun ha => ⟨⟨sc.length + 1, ?_⟩⟩) (fun x ha => ?_) (caps.length + 1) 0 (by omega) (by omega) rfl
  · rw [ha] at h2'
    exact h2' (by simp)
  · rw [ha] at h1 h2' hz
    exact f3_loop (by omega) hb (fun ho => ⟨h1 (hz.1 (by simp only [ho])) ho⟩) h2' (sc.length + 1) 0 (by omega) (by omega) rfl

end Dl
end Go.Proofs.Ytfkhdfmnhkndeaa

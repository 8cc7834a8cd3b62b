/-
  The iterator over the stretches of open minutes: what it reads, and what it yields. Conditions: none.
-/
import Derived.RangeFuncFrom
import Derived.RangeFuncLeaves
import Derived.RangeFuncBox
import Derived.WalkKit
import Derived.OwnWalkIn
import Derived.TacticsInMore
import Derived.LoopNIn
import Derived.LoopIn
import Derived.Deep.QuietTactic
import Derived.BigQuiet
import Derived.Test.YtmnalcfclcgmkaaCaM
import Derived.Test.YtmnalcfclcgmkaaEngX
import Derived.Test.YtmnalcfclcgmkaaLiftC
set_option linter.unusedVariables false
set_option linter.unusedSimpArgs false
namespace Go.Proofs.Ytmnalcfclcgmkaa
namespace Ca
open Go.RowKit Eng

attribute [local go_sem] Oper.semAt_some

/-- What a round must leave as it lay. -/
structure Kp (S : Nat → Prop) (W W' : World) : Prop where
  size : W.heap.size ≤ W'.heap.size
  same : ∀ b, S b → W'.heap[b]? = W.heap[b]?

theorem Kp.trans {S : Nat → Prop} {X Y Z : World} (h : Kp S X Y) (k : Kp S Y Z) : Kp S X Z := ⟨Nat.le_trans h.size k.size, fun b hb => (k.same b hb).trans (h.same b hb)⟩

theorem Kp.of_below {S : Nat → Prop} {n : Nat} {W W' : World} (h : Below n W W') (hS : ∀ b, S b → b < n) : Kp S W W' := ⟨h.size, fun b hb => h.block b (hS b hb)⟩

abbrev WT : Ty := .pair (.int .i64) (.pair (.int .i64) (.int .i64))

/-- What the iterator reads: its three boxes, and the rows of windows and holidays. -/
structure Mem (A : Nat → Nat → Prop) (bf bt bc : Nat) (lo hi : Int) (sw sh : Value) (ws : List Win) (hs : List Int) (W : World) : Prop where
  f : W.cell? ⟨bf, 0, none⟩ = some (.int .i64 lo)
  t : W.cell? ⟨bt, 0, none⟩ = some (.int .i64 hi)
  c0 : W.cell? ⟨bc, 0, none⟩ = some sw
  c1 : W.cell? ⟨bc, 1, none⟩ = some sh
  w : RoV W A (.slice WT) ws [sw]
  h : RoV W A (.slice (.int .i64)) hs [sh]
  A : ∀ b o, A b o → b < W.heap.size

def Sk (A : Nat → Nat → Prop) (bf bt bc : Nat) (b : Nat) : Prop := b = bf ∨ b = bt ∨ b = bc ∨ ∃ o, A b o

section mem
variable {A : Nat → Nat → Prop} {bf bt bc : Nat} {lo hi : Int} {sw sh : Value} {ws : List Win} {hs : List Int} {W W' : World}

theorem Mem.keep (h : Mem A bf bt bc lo hi sw sh ws hs W) (k : Kp (Sk A bf bt bc) W W') : Mem A bf bt bc lo hi sw sh ws hs W' := by
  have hc : ∀ b o, A b o → W'.cell? ⟨b, o, none⟩ = W.cell? ⟨b, o, none⟩ := fun b o ho => World.cell?_of_block (k.same b (.inr (.inr (.inr ⟨o, ho⟩))))
  have h1 : ∀ o, W'.cell? ⟨bf, o, none⟩ = W.cell? ⟨bf, o, none⟩ := fun o => World.cell?_of_block (a := ⟨bf, o, none⟩) (k.same bf (.inl rfl))
  have h2 : ∀ o, W'.cell? ⟨bt, o, none⟩ = W.cell? ⟨bt, o, none⟩ := fun o => World.cell?_of_block (a := ⟨bt, o, none⟩) (k.same bt (.inr (.inl rfl)))
  have h3 : ∀ o, W'.cell? ⟨bc, o, none⟩ = W.cell? ⟨bc, o, none⟩ := fun o => World.cell?_of_block (a := ⟨bc, o, none⟩) (k.same bc (.inr (.inr (.inl rfl))))
  exact ⟨(h1 0).trans h.f, (h2 0).trans h.t, (h3 0).trans h.c0, (h3 1).trans h.c1, RoV.ext (fun _ _ h => h) hc h.w, RoV.ext (fun _ _ h => h) hc h.h, fun b o ho => Nat.lt_of_lt_of_le (h.A b o ho) k.size⟩

theorem lt_of_cell {a : Addr} {v : Value} (h : W.cell? a = some v) : a.block < W.heap.size := by
  obtain ⟨o, ho, _⟩ := cells_of_cell h
  exact (Array.getElem?_eq_some_iff.1 ho).1

theorem Mem.lt (h : Mem A bf bt bc lo hi sw sh ws hs W) : ∀ b, Sk A bf bt bc b → b < W.heap.size := by
  rintro b (rfl | rfl | rfl | ⟨o, ho⟩)
  · exact lt_of_cell h.f
  · exact lt_of_cell h.t
  · exact lt_of_cell h.c0
  · exact h.A b o ho

theorem Mem.later (h : Mem A bf bt bc lo hi sw sh ws hs W) (k : Below W.heap.size W W') : Mem A bf bt bc lo hi sw sh ws hs W' := h.keep (Kp.of_below k h.lt)

/-- The rows of windows, in their cells. -/
theorem Mem.row (h : Mem A bf bt bc lo hi sw sh ws hs W) : (sw = .slice none 0 0 ∧ ws = []) ∨ ∃ b o sp cap, sw = .slice (some ⟨b, o, sp⟩) ws.length cap ∧ (ws ≠ [] → sp = none) ∧
    ∀ W', Mem A bf bt bc lo hi sw sh ws hs W' → ∀ (i : Nat) (w : Win), ws[i]? = some w → W'.cell? ⟨b, o + i * 3, none⟩ = some (.int .i64 w.1) ∧ W'.cell? ⟨b, o + i * 3 + 1, none⟩ = some (.int .i64 w.2.1) ∧ W'.cell? ⟨b, o + i * 3 + 2, none⟩ = some (.int .i64 w.2.2) := by
  rcases h.w with ⟨h1, h2⟩ | ⟨b, o, sp, cap, h1, h2, h3, h4⟩
  · exact .inl ⟨(List.cons.inj h1).1, h2⟩
  · have e1 : sw = .slice (some ⟨b, o, sp⟩) ws.length cap := (List.cons.inj h1).1
    refine .inr ⟨b, o, sp, cap, e1, h2, fun W' hW' i w hi => ?_⟩
    rcases hW'.w with ⟨g1, g2⟩ | ⟨b', o', sp', cap', g1, g2, g3, g4⟩
    · subst g2
      have hn : (none : Option Win) = some w := hi
      cases hn
    · rw [e1] at g1
      injection g1 with g1 _
      injection g1 with a1 a2 a3
      injection a1 with a1
      injection a1 with a1 a4 a5
      subst a1
      subst a4
      obtain ⟨cs, q1, q2, q3⟩ := g4 i w hi
      obtain ⟨u1, u2, rfl, p1, v1, v2, rfl, p2, p3⟩ := q2
      subst p1
      subst p2
      subst p3
      have hs : WT.size = 3 := rfl
      rw [hs] at q3
      exact ⟨(q3 0 _ rfl).1, (q3 1 _ rfl).1, (q3 2 _ rfl).1⟩

end mem

/-- slices.Contains. -/
theorem idx_ok (s : List Int) (v : Int) (hs : s.length < 4611686018427387904) (K : Int → Prop) : ∀ (n k : Nat), k ≤ s.length → n + k = s.length → (∀ x ∈ s.take k, x ≠ v) →
    (∀ r : Int, ((0 ≤ r) ↔ v ∈ s) → K r) → C.slices_Index_L1_R s v (s.length : Int) (n + 1) (k : Int) (K (-1)) (fun r => K r)
  | 0, k, hk, hn, hp, hK => by
    unfold C.slices_Index_L1_R C.slices_Index_L1_b
    have e : k = s.length := by omega
    subst e
    simp only [Int.lt_irrefl, decide_false, cond_false]
    refine hK _ ⟨fun h => by omega, fun h => ?_⟩
    rw [List.take_length] at hp
    exact absurd rfl (hp v h)
  | n + 1, k, hk, hn, hp, hK => by
    unfold C.slices_Index_L1_R C.slices_Index_L1_b
    have hlt : k < s.length := by omega
    have e1 : decide ((k : Int) < (s.length : Int)) = true := by simpa using hlt
    rw [e1, cond_true]
    refine ⟨⟨by omega, by omega⟩, ?_⟩
    have e2 : (k : Int).toNat = k := by omega
    rw [e2, List.getD_eq_getElem?_getD, List.getElem?_eq_getElem hlt, Option.getD_some]
    by_cases hv : v = s[k]
    · have e3 : (v == s[k]) = true := by simpa using hv
      rw [e3, cond_true]
      exact hK _ ⟨fun _ => by rw [hv]; exact List.getElem_mem hlt, fun _ => by omega⟩
    · have e3 : (v == s[k]) = false := by simpa using hv
      rw [e3, cond_false]
      have e4 : i64 ((k : Int) + 1) = ((k + 1 : Nat) : Int) := by rw [i64_id (n := (k : Int) + 1) (by omega) (by omega)]; omega
      rw [e4]
      refine idx_ok s v hs K n (k + 1) hlt (by omega) (fun x hx => ?_) hK
      rw [List.take_succ_eq_append_getElem hlt] at hx
      rcases List.mem_append.1 hx with h | h
      · exact hp x h
      · simp at h
        rw [h]
        exact fun e => hv e.symm

theorem contains_ok (s : List Int) (v : Int) (hs : s.length < 4611686018427387904) (K : Bool → Prop) (hK : K (s.contains v)) : C.slices_Contains s v K := by
  constructor
  unfold C.slices_Contains_B
  constructor
  unfold C.slices_Index_B
  constructor
  refine ⟨s.length + 1, ?_⟩
  have h := idx_ok s v hs (fun r => K (decide (r ≥ 0))) s.length 0 (by omega) (by omega) (by simp) (fun r hr => ?_)
  · exact h
  · have e : decide (r ≥ 0) = s.contains v := by
      rw [Bool.eq_iff_iff]
      simp only [decide_eq_true_eq, List.contains_iff_mem]
      exact hr
    show K (decide (r ≥ 0))
    rw [e]
    exact hK

/-- A function that is handed data and answers with data leaves all that lay. -/
theorem below_of {w w' : World} {A : Nat → Nat → Prop} {c' : Cfg} (hr : Rel ⟨w, A, fun _ => False⟩ c') (e : c'.w = w') : Below w.heap.size w w' := by
  subst e
  have h := hr.below
  exact ⟨h.b0.os, h.b0.tape, h.b0.output, h.b0.size, fun k hk => h.block k (noOwn hk)⟩

theorem contains_calls {A : Nat → Nat → Prop} {W : World} {sh : Value} {hs : List Int} (hA : ∀ b o, A b o → b < W.heap.size) (h : RoV W A (.slice (.int .i64)) hs [sh]) (hl : hs.length < 4611686018427387904) (d : Int) :
    Calls Try.prog 28 #[sh, .int .i64 d] W fun e w' => e = .returned (.bool (hs.contains d)) ∧ Below W.heap.size W w' := by
  refine (C.slices_Contains_ok W A [.ro (.int .i64) hs, .x (.int .i64 d)] #[sh, .int .i64 d] (fun v _ => v = .x (.bool (hs.contains d))) hA ?_ ?_).mono ?_
  · simp only [RelVs, RelV, cfg0]
    exact ⟨_, _, rfl, h, _, _, rfl, rfl, rfl⟩
  · have e : C.slices_Contains_S [.ro (.int .i64) hs, .x (.int .i64 d)] (fun v _ => v = .x (.bool (hs.contains d))) = C.slices_Contains hs d (fun r0 => (V.x (.bool r0)) = .x (.bool (hs.contains d))) := by kernel_rfl
    rw [e]
    exact contains_ok hs d hl _ rfl
  · rintro e w' ⟨u, v, c', rfl, e2, hr, _, hv, rfl⟩
    simp only [RelV] at hv
    subst hv
    exact ⟨rfl, below_of hr e2⟩

end Ca
end Go.Proofs.Ytmnalcfclcgmkaa

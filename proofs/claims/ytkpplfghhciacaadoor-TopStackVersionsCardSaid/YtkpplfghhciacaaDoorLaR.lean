/-
  A range over an iterator that keeps a value of its own in one cell and writes it between the rounds. Conditions: none.
-/
import Derived.RangeFuncFrom
import Derived.RangeFuncLeaves
import Derived.RangeFuncBox
import Derived.WalkKit
import Derived.OwnWalkIn
import Derived.TacticsInMore
import Derived.LoopNIn
import Derived.LoopIn
import Derived.Deep.QuietTactic
import Derived.BigQuiet
import Derived.Test.YtkpplfghhciacaaDoorProg
set_option linter.unusedVariables false
set_option linter.unusedSimpArgs false
namespace Go.Proofs.YtkpplfghhciacaaDoor
namespace La
open Go.RowKit

/-- What such an iterator owes: whatever abides its cell's writes too. -/
def SeqW {α : Type} (P : Program) (g : Nat) (lb : Array Value) (c : Addr) (encs : α → Array Value) (Kp : World → World → Prop) (S Sp : List α → Prop) (N : Nat) (w : World) : Prop :=
  ∀ (l : Nat) (J Jx : List α → World → Prop) (W : World), Below w.heap.size w W → l ≠ c.block → AbidesFrom W.heap.size J → AbidesFrom W.heap.size Jx → (∀ s X v, J s X → J s (X.setCell c v)) →
    (∀ pre x W1, J pre W1 → pre.length < N → YieldAt Fence.wide 0 P l (encs x) W1 fun e W' => (e = .returned (.bool true) ∧ J (pre ++ [x]) W' ∧ Kp W1 W') ∨ (e = .returned (.bool false) ∧ Jx (pre ++ [x]) W')) →
    J [] W → CallsIn Fence.wide 0 P g (#[.func (.yield l) #[] #[]] ++ lb) W fun e W' => (∃ v, e = .returned v) ∧ ((∃ xs, S xs ∧ J xs W') ∨ (∃ pre, Sp pre ∧ Jx pre W'))

/-- The same loop object in another state. -/
def inState (r : Loop) (s : LoopState) (p : Option Code) : Loop := { r with state := s, pending := p }

theorem range_w {P : Program} {α : Type} {g : Operand} {ps : Array Tmp} {assign body : Code} {Q : Exit → Act → World → Prop} {a : Act} {w : World} {gf : Nat} {lb : Array Value} {c : Addr}
    (hg : a.eval g = .func (.func gf) #[] lb) (eg : ∀ args w, (callFunc gf args).run P w = .ok (.enter gf args) w) (hc : c.block < w.heap.size)
    {encs : α → Array Value} {Kp : World → World → Prop} {S Sp : List α → Prop} {N : Nat} (hseq : SeqW P gf lb c encs Kp S Sp N w)
    (hKt : ∀ {A B C : World}, Kp A B → Kp B C → Kp A C) (hKb : ∀ (W : World) (l : Nat) (o o' : Obj), w.heap.size ≤ l → W.heap[l]? = some o → o.isCells = false → o.isWalk = false → Kp W (W.putObj l o')) (hps : ∀ x, (encs x).size = ps.size)
    (I : List α → World → Prop) (Ix : Code → List α → World → Prop) (hI : OwnFrom w.heap.size I) (hIx : ∀ c, OwnFrom w.heap.size (Ix c)) (hIw : ∀ s X v, I s X → I s (X.setCell c v)) (h0 : I [] w) (a₁ : α → Act)
    (hassign : ∀ (l : Nat) (x : α) (W : World) (K : Act → World → Prop), K (a₁ x) W →
      assign.wpIn (Fence.wide.inRound l) 0 P (Exit.then K (fun _ _ _ => False)) { tmps := (ps.zip (encs x)).foldl (fun t (p, v) => t.setIfInBounds p v) a.tmps, defers := [] } W)
    (hbody : ∀ (l : Nat) (pre : List α) (x : α) (W : World), I pre W → pre.length < N → body.wpIn (Fence.wide.inRound l) 0 P (ownPostK Kp I Ix (pre ++ [x]) W) (a₁ x) W)
    (hdone : ∀ (D : Nat) (xs : List α) (W : World), w.heap.size ≤ D → S xs → I xs W → W.heap[D]? = some (.deferred (some [])) → Q .normal { a with defers := { target := .collected D, args := #[] } :: a.defers } W)
    (hstop : ∀ (D : Nat) (c : Code) (pre : List α) (W : World), w.heap.size ≤ D → Sp pre → Ix c pre W → W.heap[D]? = some (.deferred (some [])) → c.wpIn Fence.wide 1 P Q { a with defers := { target := .collected D, args := #[] } :: a.defers } W) :
    (Code.rangeFunc g ps assign body).wpIn Fence.wide 1 P Q a w := by
  refine wpIn_rangeFunc fun fn hfn => ?_
  generalize hm : w.heap.size = m at *
  let r0 : Loop := { state := .ready, pending := none, fn, tmps := a.tmps, params := ps, assign, body, defers := m }
  have hr0 : ∀ s p, inState r0 s p = { state := s, pending := p, fn, tmps := a.tmps, params := ps, assign, body, defers := m } := fun _ _ => rfl
  obtain ⟨V, hV⟩ : ∃ V, (w.alloc (.deferred (some []))).alloc (.loop r0) = V := ⟨_, rfl⟩
  have sV : V.heap.size = m + 2 := by rw [← hV]; simp [hm]
  have vL : V.heap[m + 1]? = some (.loop r0) := by
    have := World.alloc_heap_new (w.alloc (.deferred (some []))) (.loop r0)
    rw [World.size_alloc, hm] at this
    rw [← hV]; exact this
  have vD : V.heap[m]? = some (.deferred (some [])) := by
    rw [← hV, ← hm]; exact (Below.heap_alloc _ _ _ (by simp)).trans (World.alloc_heap_new w _)
  have vI : I [] V := by rw [← hV]; exact hI.alloc _ (hI.alloc _ h0)
  have vB : Below w.heap.size w V := by
    rw [← hV]; exact ((Below.refl _ w).alloc (Nat.le_refl _) _).alloc (by simp) _
  refine ⟨m + 1, [{ target := .collected m, args := #[] }], V, { target := .fn (.func gf) lb, args := #[.func (.yield (m + 1)) #[] #[]] }, V, gf, #[.func (.yield (m + 1)) #[] #[]] ++ lb, V, ?_, ?_, ?_, ?_, fun h => by simp [Fence.wide] at h, ?_⟩
  · rw [← hV, ← hm]; subst hm; exact run_enterLoop_outer _ _ _ _ _
  · simp only [resolve, hg]
    simp [go_sem]
  · intro f' _; trivial
  · simp [invoke, go_sem, eg]
  -- what the rounds keep
  let B : Loop → World → Prop := fun r W => W.heap[m + 1]? = some (.loop r) ∧ W.heap[m]? = some (.deferred (some []))
  have bGrow : ∀ {r : Loop} {X Y : World} {row : Option Nat}, B r X → X.grownBy Y row → (∀ k, row = some k → V.heap.size ≤ k ∧ ∃ o : Obj, X.heap[k]? = some o ∧ o.isWalk = true) → B r Y :=
    fun h hgr hr => ⟨(grownBy_keeps hgr (fun k e => (hr k e).2) h.1 rfl).trans h.1, (grownBy_keeps hgr (fun k e => (hr k e).2) h.2 rfl).trans h.2⟩
  have own : ∀ {X : World} {row : Option Nat}, (∀ k, row = some k → V.heap.size ≤ k ∧ ∃ o : Obj, X.heap[k]? = some o ∧ o.isWalk = true) → ∀ k, row = some k → m ≤ k ∧ ∃ o : Obj, X.heap[k]? = some o ∧ o.isCells = false :=
    fun hr k e => by obtain ⟨h1, o, h2, h3⟩ := hr k e; exact ⟨by omega, o, h2, Obj.not_cells_of_walk h3⟩
  refine (hseq (m + 1) (fun pre W => I pre W ∧ B r0 W) (fun pre W => ∃ k, Ix k pre W ∧ B (inState r0 .done (some k)) W) V (hm ▸ vB) (by omega)
    (fun s X Y row h hgr hr => ⟨hI s X Y row h.1 hgr (own hr), bGrow h.2 hgr hr⟩)
    (fun s X Y row h hgr hr => by
      obtain ⟨k, h1, h2⟩ := h
      exact ⟨k, hIx k s X Y row h1 hgr (own hr), bGrow h2 hgr hr⟩)
    (fun s X v h => ⟨hIw s X v h.1, (Below.heap_setCell X c v _ (by omega)).trans h.2.1, (Below.heap_setCell X c v _ (by omega)).trans h.2.2⟩) ?_ ⟨vI, vL, vD⟩).mono ?_
  · rintro pre x W ⟨hi, hl, hd⟩ hlen
    have hlt : m + 1 < W.heap.size := (Array.getElem?_eq_some_iff.1 hl).1
    refine ⟨fn, _, assign, body, run_yield (P := P) (args := encs x) hl (hps x), roundIn_of_wpIn hfn (hassign _ x W _ ⟨_, run_beginRound hl rfl, ?_⟩)⟩
    generalize hX : W.putObj (m + 1) (.loop { r0 with state := .busy }) = X
    have xL : X.heap[m + 1]? = some (.loop { r0 with state := .busy }) := by rw [← hX]; exact World.putObj_heap_same hlt
    have xD : X.heap[m]? = some (.deferred (some [])) := by rw [← hX]; exact (World.putObj_heap_other (by omega)).trans hd
    have xK : Kp W X := by rw [← hX]; exact hKb _ _ _ _ (by omega) hl rfl rfl
    have xI : I pre X := by rw [← hX]; exact hI.putObj _ hi (by omega) hl rfl
    refine wpIn_mono (hbody _ pre x X xI hlen) ?_
    have leave : ∀ (j : Option Code) (Y : World), KeepsOthers X Y →
        (Instr.endRound (m + 1) j).run P Y = .ok (.bool j.isNone) (Y.putObj (m + 1) (.loop (inState r0 (if j.isNone then .ready else .done) j))) ∧
        Y.heap[m + 1]? = some (.loop { r0 with state := .busy }) ∧ B (inState r0 (if j.isNone then .ready else .done) j) (Y.putObj (m + 1) (.loop (inState r0 (if j.isNone then .ready else .done) j))) := fun j Y hk => by
      have yL := hk.same _ _ xL rfl
      have e1 := run_endRound (P := P) j yL
      exact ⟨e1, yL, World.putObj_heap_same (Array.getElem?_eq_some_iff.1 yL).1, (World.putObj_heap_other (by omega)).trans (hk.same _ _ xD rfl)⟩
    have out : ∀ (j : Code) (Y : World), KeepsOthers X Y ∧ Ix j (pre ++ [x]) Y → ∃ v W2, (Instr.endRound (m + 1) (some j)).run P Y = .ok v W2 ∧ (((Ending.returned v) = .returned (.bool true) ∧ (I (pre ++ [x]) W2 ∧ B r0 W2) ∧ Kp W W2) ∨
        ((Ending.returned v) = .returned (.bool false) ∧ ∃ k, Ix k (pre ++ [x]) W2 ∧ B (inState r0 .done (some k)) W2)) := fun j Y h => by
      obtain ⟨e1, yL, e2⟩ := leave (some j) Y h.1
      exact ⟨_, _, e1, .inr ⟨rfl, j, (hIx j).putObj _ h.2 (by omega) yL rfl, e2⟩⟩
    rintro e a3 Y hp
    cases e with
    | normal =>
      obtain ⟨hk, hkp, hi3⟩ := hp
      obtain ⟨e1, yL, e2⟩ := leave none Y hk
      exact ⟨_, _, e1, .inl ⟨rfl, ⟨hI.putObj _ hi3 (by omega) yL rfl, e2⟩, hKt (hKt xK hkp) (hKb _ _ _ _ (by omega) yL rfl rfl)⟩⟩
    | ret => exact out .ret Y hp
    | exit id => exact out (.exit id) Y hp
    | goto t => exact out (.goto t) Y hp
    | panic ch => exact hp.elim
    | outgrown => exact hp.elim
  · rintro e W2 ⟨⟨v, rfl⟩, (⟨xs, hS, hi, hl, hd⟩ | ⟨pre, hSp, k, hi, hl, hd⟩)⟩
    · exact ⟨none, _, run_endLoop (P := P) hl (by simp [r0]), hdone m xs _ (Nat.le_refl _) hS (hI.putObj _ hi (by omega) hl rfl) ((World.putObj_heap_other (by omega)).trans hd)⟩
    · exact ⟨some k, _, run_endLoop (P := P) hl (by simp [inState]), hstop m k pre _ (Nat.le_refl _) hSp ((hIx k).putObj _ hi (by omega) hl rfl) ((World.putObj_heap_other (by omega)).trans hd)⟩

end La
end Go.Proofs.YtkpplfghhciacaaDoor

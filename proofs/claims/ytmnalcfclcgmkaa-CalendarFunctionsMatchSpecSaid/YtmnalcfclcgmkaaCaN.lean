/-
  Next: its walk. Conditions: none.
-/
import Derived.Test.YtmnalcfclcgmkaaCaK
set_option linter.unusedVariables false
set_option linter.unusedSimpArgs false
namespace Go.Proofs.Ytmnalcfclcgmkaa
namespace Ca
open Go.RowKit Go.Shelf Eng

attribute [local go_sem] Oper.semAt_some wide_fn wide_depth wide_in_fn wide_in_depth

theorem OwnFrom.ex {β γ : Type} {B : Nat} {P : γ → β → World → Prop} (h : ∀ x, OwnFrom B (P x)) : OwnFrom B (fun s W => ∃ x, P x s W) := fun s W W' row ⟨x, hs⟩ hg hr => ⟨x, h x s W W' row hs hg hr⟩

/-- What Next answers. -/
def nextS : List (Int × Int) → Int × (Int × Int)
  | [] => (0, (6, -21))
  | x :: _ => (x.1, (0, 0))

def nextR (ws : List Win) (hs : List Int) (t : Int) : Int × (Int × Int) := bif chk ws hs [t] == (0, 0) then nextS (str ws hs t (t + 500000 + 1)) else (0, chk ws hs [t])

set_option maxRecDepth 100000 in
set_option maxHeartbeats 4000000 in
theorem next_calls {A : Nat → Nat → Prop} {W : World} {wa ha : Option Addr} {wn wc hn hc : Nat} {ws : List Win} {hs : List Int} (hA : ∀ b o, A b o → b < W.heap.size)
    (hw : RoV W A (.slice WT) ws [.slice wa wn wc]) (hh : RoV W A (.slice (.int .i64)) hs [.slice ha hn hc]) (t : Int) :
    Calls Try.prog 10 #[.agg #[.slice wa wn wc, .slice ha hn hc], .int .i64 t] W fun e w' =>
      e = .returned (.tuple #[.int .i64 (nextR ws hs t).1, .agg #[.int .i64 (nextR ws hs t).2.1, .int .i64 (nextR ws hs t).2.2]]) ∧ Below W.heap.size W w' := by
  obtain ⟨W1, hW1⟩ : ∃ W1, W1 = ((W.alloc (Obj.cells #[Value.slice wa wn wc, Value.slice ha hn hc] 25)).alloc (Obj.cells #[Value.int .i64 0] 3)).alloc (Obj.cells #[Value.int .i64 0, Value.int .i64 0] 27) := ⟨_, rfl⟩
  have s1 : W1.heap.size = W.heap.size + 3 := by rw [hW1]; simp
  have hB1 : Below W.heap.size W W1 := by rw [hW1]; exact (((Below.refl _ W).alloc (Nat.le_refl _) _).alloc (by simp) _).alloc (by simp; omega) _
  have b0 : W1.heap[W.heap.size]? = some (.cells #[.slice wa wn wc, .slice ha hn hc] 25 (0, 0)) := by rw [hW1]; exact heap_old _ _ (heap_old _ _ (World.alloc_heap_new W _))
  have b1 : W1.heap[W.heap.size + 1]? = some (.cells #[.int .i64 0] 3 (0, 0)) := by
    rw [hW1]; refine heap_old _ _ ?_
    have := World.alloc_heap_new (W.alloc (Obj.cells #[Value.slice wa wn wc, Value.slice ha hn hc] 25)) (Obj.cells #[Value.int .i64 0] 3)
    rwa [World.size_alloc] at this
  have b2 : W1.heap[W.heap.size + 1 + 1]? = some (.cells #[.int .i64 0, .int .i64 0] 27 (0, 0)) := by
    rw [hW1]
    have := World.alloc_heap_new ((W.alloc (Obj.cells #[Value.slice wa wn wc, Value.slice ha hn hc] 25)).alloc (Obj.cells #[Value.int .i64 0] 3)) (Obj.cells #[Value.int .i64 0, Value.int .i64 0] 27)
    rwa [World.size_alloc, World.size_alloc] at this
  have hcall := check_calls (W0 := W) (W := W1.alloc (Obj.cells #[Value.int .i64 t] 3)) (ts := [t]) (cap := 1) (b := W1.heap.size) hA (hB1.alloc (by omega) _) hw hh (World.alloc_heap_new W1 _) (Nat.le_refl 1) (by simp)
  obtain ⟨⟨c, i⟩, hci⟩ : ∃ p, p = chk ws hs [t] := ⟨_, rfl⟩
  simp only [← hci] at hcall
  simp only [s1] at hcall
  have key : ∀ W3, Below (W1.alloc (Obj.cells #[Value.int .i64 t] 3)).heap.size (W1.alloc (Obj.cells #[Value.int .i64 t] 3)) W3 →
      Below W.heap.size W W3 ∧ W.heap.size + 4 ≤ W3.heap.size ∧ W3.heap[W.heap.size]? = some (.cells #[.slice wa wn wc, .slice ha hn hc] 25 (0, 0)) ∧ RC (W.heap.size + 1) 3 (.int .i64 0) 0 0 W3 := fun W3 hB =>
    ⟨(hB1.alloc (by omega) _).trans (hB.mono (by simp; omega)), by have := hB.size; simp at this; omega, heap_below hB (heap_old _ _ b0) (by simp; omega), heap_below hB (heap_old _ _ b1) (by simp; omega), heap_below hB (heap_old _ _ b2) (by simp; omega)⟩
  obtain ⟨v1, v2⟩ := chk_code ws hs [t]
  rw [← hci] at v1 v2
  refine (callsIn_wide (n := 1)).1 (callsIn_of_wp_marks Try.func10 rfl trivial ?_ rfl)
  simp only [Try.ntmps10, List.size_toArray, List.length_cons, List.length_nil, Nat.reduceAdd, Nat.reduceSub, Array.replicate_succ, Array.replicate_zero, List.push_toArray, List.append_toArray, List.nil_append, List.cons_append]
  by_cases hz : c = 0
  · obtain rfl : i = 0 := by
      have := v1 hz
      simp only [Prod.mk.injEq] at this
      exact this.2
    subst hz
    obtain ⟨hG, hT⟩ := v2 rfl
    obtain ⟨t0, t1⟩ := hT t (by simp)
    have hR : nextR ws hs t = nextS (str ws hs t (t + 500000 + 1)) := by unfold nextR; rw [← hci]; rfl
    rw [hR]
    gi_wp2_with (first | (gi_at_call 20; rw [← hW1]; refine CallsIn.mono (callsIn_wide.2 hcall) ?_; rintro e W3 ⟨rfl, hB⟩; obtain ⟨hB3, hs3, p0, p1⟩ := key W3 hB; obtain ⟨c0, c1, -, -⟩ := two_cells p0; obtain ⟨c5, c6, -, -⟩ := two_cells (heap_old W3 (Obj.cells #[Value.int .i64 0, Value.int .i64 0] 27) p0)) | (gi_at_call 21; refine CallsIn.mono (callsIn_wide.2 (stretches_calls _ _ _ _ _)) ?_; rintro e w' ⟨rfl, rfl⟩))
    generalize hW4 : W3.alloc (Obj.cells #[Value.int .i64 0, Value.int .i64 0] 27) = W4
    have s4 : W4.heap.size = W3.heap.size + 1 := by rw [← hW4]; simp
    have q1 : RC (W.heap.size + 1) 3 (.int .i64 0) 0 0 W4 := by rw [← hW4]; exact p1.alloc _
    have hB4 : Below W.heap.size W W4 := by rw [← hW4]; exact hB3.alloc (by omega) _
    have hA4 : ∀ b o, A b o → b < W4.heap.size := fun b o h => by have := hA b o h; omega
    rw [show W3.heap.size + 1 = W4.heap.size from s4.symm]
    generalize hW7 : ((W4.alloc (Obj.cells #[Value.slice wa wn wc, Value.slice ha hn hc] 25)).alloc (Obj.cells #[Value.int .i64 t] 3)).alloc (Obj.cells #[Value.int .i64 (t + 500000 + 1)] 3) = W7
    have hw4 := ro_later hA hB4 hw
    have hh4 := ro_later hA hB4 hh
    obtain ⟨hM, hB7, s7⟩ := mem_str (hi := t + 500000 + 1) hA4 hw4 hh4 hW7.symm
    have q7 : RC (W.heap.size + 1) 3 (.int .i64 0) 0 0 W7 := by rw [← hW7]; exact ((q1.alloc _).alloc _).alloc _
    have hB8 : Below W.heap.size W W7 := hB4.trans (hB7.mono (by omega))
    have hcov := str_cov (ws := ws) (hs := hs) (lo := t) (hi := t + 500000 + 1) hG.ok (by omega) t0
    refine range_str hA4 hw4 hh4 hG t0 (by omega) (by omega) (by omega) hW7.symm (by rfl) (by rfl)
      (fun pre W' => pre = [] ∧ RC (W.heap.size + 1) 3 (.int .i64 0) 0 0 W' ∧ Below W.heap.size W W')
      (fun c pre W' => ∃ x : Int × Int, (c = .ret ∧ pre = [x]) ∧ RC (W.heap.size + 1) 3 (.int .i64 x.1) 0 0 W' ∧ Below W.heap.size W W')
      (OwnFrom.and (OwnFrom.const _) (OwnFrom.and (RC.own _ _ _ _ _ _) (ownFrom_below (Nat.le_refl _) (by omega))))
      (fun c => OwnFrom.ex fun x => OwnFrom.and (OwnFrom.const _) (OwnFrom.and (RC.own _ _ _ _ _ _) (ownFrom_below (Nat.le_refl _) (by omega))))
      ⟨rfl, q7, hB8⟩
      ?act ?assign ?body ?done ?stop
    case assign =>
      intro l x X K hK
      gi_wp2
      exact hK
    case body =>
      rintro l pre x X ⟨rfl, r1, r2⟩ _ _
      obtain ⟨⟨d0, d1⟩, e0, e1, e2, e3⟩ := r1.cells
      gi_wp2
      obtain ⟨f1, f2, f3, f4⟩ := r1.store (.int .i64 x.1) 0 0
      exact ⟨f2, x, ⟨rfl, rfl⟩, f1, f3 _ _ r2 (by omega)⟩
    case done =>
      rintro D X hD ⟨hx, r1, r2⟩ hd
      obtain ⟨⟨d0, d1⟩, e0, e1, e2, e3⟩ := r1.cells
      gi_wp2
      obtain ⟨f1, f2, f3, f4⟩ := r1.store (.int .i64 0) 6 (-21)
      have hd' := (f4 D (by omega) (by omega)).trans hd
      refine ⟨by simp, .inl ⟨_, _, rfl, run_takeDeferred hd', ?_⟩⟩
      obtain ⟨⟨g0, _⟩, g1, g2, _, _⟩ := (f1.put (.deferred none) hd' rfl).cells
      rw [hx]
      refine ⟨_, ?_, rfl, below_put (f3 _ _ r2 (by omega)) _ hd' (by omega)⟩
      simp [results, Try.f10, go_sem, g0, g1, g2, nextS]
    case stop =>
      rintro D c pre X hD hp ⟨x, ⟨rfl, rfl⟩, r1, r2⟩ hd
      gi_wp2
      refine ⟨by simp, .inl ⟨_, _, rfl, run_takeDeferred hd, ?_⟩⟩
      obtain ⟨⟨g0, _⟩, g1, g2, _, _⟩ := (r1.put (.deferred none) hd rfl).cells
      obtain ⟨r, hr⟩ := hp
      have hop : nextS (str ws hs t (t + 500000 + 1)) = (x.1, (0, 0)) := by rw [← hr]; rfl
      rw [hop]
      refine ⟨_, ?_, rfl, below_put r2 _ hd (by omega)⟩
      simp [results, Try.f10, go_sem, g0, g1, g2, nextS]
  · have hR : nextR ws hs t = (0, (c, i)) := by
      unfold nextR
      rw [← hci]
      have : ((c, i) == ((0, 0) : Int × Int)) = false := by
        simp only [beq_eq_false_iff_ne, ne_eq, Prod.mk.injEq, not_and]
        exact fun h => absurd h hz
      rw [this]
      rfl
    rw [hR]
    gi_wp2_with (gi_at_call 20; rw [← hW1]; refine CallsIn.mono (callsIn_wide.2 hcall) ?_; rintro e W3 ⟨rfl, hB⟩; obtain ⟨hB3, hs3, p0, p1⟩ := key W3 hB; obtain ⟨c0, c1, -, -⟩ := two_cells p0)
    generalize hW4 : W3.alloc (Obj.cells #[Value.int .i64 c, Value.int .i64 i] 27) = W4
    have q3 : W4.heap[W3.heap.size]? = some (.cells #[.int .i64 c, .int .i64 i] 27 (0, 0)) := by rw [← hW4]; exact World.alloc_heap_new W3 _
    have q1 : RC (W.heap.size + 1) 3 (.int .i64 0) 0 0 W4 := by rw [← hW4]; exact p1.alloc _
    have hB4 : Below W.heap.size W W4 := by rw [← hW4]; exact hB3.alloc (by omega) _
    clear c0 c1
    obtain ⟨c0, c1, c2, c3⟩ := two_cells q3
    obtain ⟨⟨d0, d1⟩, e0, e1, e2, e3⟩ := q1.cells
    refine wpIn_wide.2 ?_
    go_region
    dsimp only [Exit.then]
    go_at_K
    gi_wp2
    obtain ⟨f1, f2, f3, f4⟩ := q1.store (.int .i64 0) c i
    obtain ⟨⟨g0, _⟩, g1, g2, _, _⟩ := f1.cells
    refine ⟨_, ?_, rfl, (f3 _ _ hB4 (by omega)).drew⟩
    simp [results, Try.f10, go_sem, g0, g1, g2, nextS]

end Ca
end Go.Proofs.Ytmnalcfclcgmkaa

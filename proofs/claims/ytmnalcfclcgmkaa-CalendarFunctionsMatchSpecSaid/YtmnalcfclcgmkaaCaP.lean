/-
  Add: its walk. Conditions: none.
-/
import Derived.Test.YtmnalcfclcgmkaaCaO
set_option linter.unusedVariables false
set_option linter.unusedSimpArgs false
namespace Go.Proofs.Ytmnalcfclcgmkaa
namespace Ca
open Go.RowKit Go.Shelf Eng

attribute [local go_sem] Oper.semAt_some wide_fn wide_depth wide_in_fn wide_in_depth

def addE : Option Int → Int × (Int × Int)
  | some r => (r, (0, 0))
  | none => (0, (6, -22))

theorem addS_append : ∀ (pre r : List (Int × Int)) (m : Int), (∀ t, addS pre m = some t → addS (pre ++ r) m = some t) ∧ (addS pre m = none → addS (pre ++ r) m = addS r (m - lens pre))
  | [], r, m => by simp [addS, lens]
  | x :: pre, r, m => by
    have ih := addS_append pre r (m - (x.2 - x.1))
    simp only [List.cons_append, addS, lens]
    split
    · exact ⟨fun t h => h, fun h => by cases h⟩
    · refine ⟨ih.1, fun h => ?_⟩
      rw [ih.2 h]
      congr 1
      omega

/-- What Add answers. -/
def addR (ws : List Win) (hs : List Int) (t m : Int) : Int × (Int × Int) :=
  bif chk ws hs [t] == (0, 0) then (bif decide (m < 0) || decide (m > 500000) then (0, (3, -21)) else bif m == 0 then (t, (0, 0)) else addE (addS (str ws hs t (t + 500000)) m)) else (0, chk ws hs [t])

set_option maxRecDepth 100000 in
set_option maxHeartbeats 4000000 in
theorem add_calls {A : Nat → Nat → Prop} {W : World} {wa ha : Option Addr} {wn wc hn hc : Nat} {ws : List Win} {hs : List Int} (hA : ∀ b o, A b o → b < W.heap.size)
    (hw : RoV W A (.slice WT) ws [.slice wa wn wc]) (hh : RoV W A (.slice (.int .i64)) hs [.slice ha hn hc]) (t m : Int) :
    Calls Try.prog 12 #[.agg #[.slice wa wn wc, .slice ha hn hc], .int .i64 t, .int .i64 m] W fun e w' =>
      e = .returned (.tuple #[.int .i64 (addR ws hs t m).1, .agg #[.int .i64 (addR ws hs t m).2.1, .int .i64 (addR ws hs t m).2.2]]) ∧ Below W.heap.size W w' := by
  obtain ⟨W0, hW0⟩ : ∃ W0, W0 = W.alloc (Obj.cells #[Value.slice wa wn wc, Value.slice ha hn hc] 25) := ⟨_, rfl⟩
  obtain ⟨V1, hV1⟩ : ∃ V1, V1 = W0.alloc (Obj.cells #[Value.int .i64 m] 3) := ⟨_, rfl⟩
  obtain ⟨V2, hV2⟩ : ∃ V2, V2 = V1.alloc (Obj.cells #[Value.int .i64 0] 3) := ⟨_, rfl⟩
  obtain ⟨W1, hW1⟩ : ∃ W1, W1 = V2.alloc (Obj.cells #[Value.int .i64 0, Value.int .i64 0] 27) := ⟨_, rfl⟩
  have z0 : W0.heap.size = W.heap.size + 1 := by rw [hW0]; simp
  have z1 : V1.heap.size = W.heap.size + 2 := by rw [hV1]; simp [z0]
  have z2 : V2.heap.size = W.heap.size + 3 := by rw [hV2]; simp [z1]
  have s1 : W1.heap.size = W.heap.size + 4 := by rw [hW1]; simp [z2]
  have hB1 : Below W.heap.size W W1 := by rw [hW1, hV2, hV1, hW0]; exact ((((Below.refl _ W).alloc (Nat.le_refl _) _).alloc (by simp) _).alloc (by simp; omega) _).alloc (by simp; omega) _
  have b0 : W1.heap[W.heap.size]? = some (.cells #[.slice wa wn wc, .slice ha hn hc] 25 (0, 0)) := by rw [hW1, hV2, hV1]; exact heap_old _ _ (heap_old _ _ (heap_old _ _ (by rw [hW0]; exact World.alloc_heap_new W _)))
  have b1 : W1.heap[W.heap.size + 1]? = some (.cells #[.int .i64 m] 3 (0, 0)) := by rw [hW1, hV2]; exact heap_old _ _ (heap_old _ _ (by rw [hV1, ← z0]; exact World.alloc_heap_new W0 _))
  have b2 : W1.heap[W.heap.size + 1 + 1]? = some (.cells #[.int .i64 0] 3 (0, 0)) := by rw [hW1]; exact heap_old _ _ (by rw [hV2, show W.heap.size + 1 + 1 = V1.heap.size from z1.symm]; exact World.alloc_heap_new V1 _)
  have b3 : W1.heap[W.heap.size + 1 + 1 + 1]? = some (.cells #[.int .i64 0, .int .i64 0] 27 (0, 0)) := by rw [hW1, show W.heap.size + 1 + 1 + 1 = V2.heap.size from z2.symm]; exact World.alloc_heap_new V2 _
  rw [hV2, hV1, hW0] at hW1
  clear hV2 hV1 hW0 z0 z1 z2
  have hcall := check_calls (W0 := W) (W := W1.alloc (Obj.cells #[Value.int .i64 t] 3)) (ts := [t]) (cap := 1) (b := W1.heap.size) hA (hB1.alloc (by omega) _) hw hh (World.alloc_heap_new W1 _) (Nat.le_refl 1) (by simp)
  obtain ⟨⟨c, i⟩, hci⟩ : ∃ p, p = chk ws hs [t] := ⟨_, rfl⟩
  simp only [← hci] at hcall
  simp only [s1] at hcall
  have key : ∀ W3, Below (W1.alloc (Obj.cells #[Value.int .i64 t] 3)).heap.size (W1.alloc (Obj.cells #[Value.int .i64 t] 3)) W3 →
      Below W.heap.size W W3 ∧ W.heap.size + 5 ≤ W3.heap.size ∧ W3.heap[W.heap.size]? = some (.cells #[.slice wa wn wc, .slice ha hn hc] 25 (0, 0)) ∧ W3.heap[W.heap.size + 1]? = some (.cells #[.int .i64 m] 3 (0, 0)) ∧ RC (W.heap.size + 1 + 1) 3 (.int .i64 0) 0 0 W3 := fun W3 hB =>
    ⟨(hB1.alloc (by omega) _).trans (hB.mono (by simp; omega)), by have := hB.size; simp at this; omega, heap_below hB (heap_old _ _ b0) (by simp; omega), heap_below hB (heap_old _ _ b1) (by simp; omega), heap_below hB (heap_old _ _ b2) (by simp; omega), heap_below hB (heap_old _ _ b3) (by simp; omega)⟩
  obtain ⟨v1, v2⟩ := chk_code ws hs [t]
  rw [← hci] at v1 v2
  refine (callsIn_wide (n := 1)).1 (callsIn_of_wp_marks Try.func12 rfl trivial ?_ rfl)
  simp only [Try.ntmps12, List.size_toArray, List.length_cons, List.length_nil, Nat.reduceAdd, Nat.reduceSub, Array.replicate_succ, Array.replicate_zero, List.push_toArray, List.append_toArray, List.nil_append, List.cons_append]
  by_cases hz : c = 0
  · obtain rfl : i = 0 := by
      have := v1 hz
      simp only [Prod.mk.injEq] at this
      exact this.2
    subst hz
    obtain ⟨hG, hT⟩ := v2 rfl
    obtain ⟨t0, t1⟩ := hT t (by simp)
    by_cases hord : m < 0 ∨ m > 500000
    · have hR : addR ws hs t m = (0, (3, -21)) := by
        unfold addR
        rw [← hci, show (decide (m < 0) || decide (m > 500000)) = true by simpa using hord]
        rfl
      rw [hR]
      have hend : ∀ W3, Below (W1.alloc (Obj.cells #[Value.int .i64 t] 3)).heap.size (W1.alloc (Obj.cells #[Value.int .i64 t] 3)) W3 → ∃ W4, W4 = W3.alloc (Obj.cells #[Value.int .i64 0, Value.int .i64 0] 27) ∧ RC (W.heap.size + 1 + 1) 3 (.int .i64 0) 0 0 W4 ∧ Below W.heap.size W W4 := fun W3 hB => by
        obtain ⟨hB3, hs3, p0, pm, p1⟩ := key W3 hB
        exact ⟨_, rfl, p1.alloc _, hB3.alloc (by omega) _⟩
      by_cases hm0 : m < 0
      · gi_wp2_with (gi_at_call 20; rw [← hW1]; refine CallsIn.mono (callsIn_wide.2 hcall) ?_; rintro e W3 ⟨rfl, hB⟩; obtain ⟨hB3, hs3, p0, pm, p1⟩ := key W3 hB; obtain ⟨c0, c1, -, -⟩ := two_cells p0; obtain ⟨cm, -⟩ := one_cell (heap_old W3 (Obj.cells #[Value.int .i64 0, Value.int .i64 0] 27) pm); have p2 := p1.alloc (Obj.cells #[Value.int .i64 0, Value.int .i64 0] 27); obtain ⟨⟨c3, c4⟩, c5, c6, c7, c8⟩ := p2.cells)
        obtain ⟨f1, f2, f3, f4⟩ := p2.store (.int .i64 0) 3 (-21)
        obtain ⟨⟨g0, _⟩, g1, g2, _, _⟩ := f1.cells
        refine ⟨_, ?_, rfl, f3 _ _ (hB3.alloc (by omega) _) (by omega)⟩
        simp [results, Try.f12, go_sem, g0, g1, g2]
      · have hgt : 500000 < m := by omega
        gi_wp2_with (gi_at_call 20; rw [← hW1]; refine CallsIn.mono (callsIn_wide.2 hcall) ?_; rintro e W3 ⟨rfl, hB⟩; obtain ⟨hB3, hs3, p0, pm, p1⟩ := key W3 hB; obtain ⟨c0, c1, -, -⟩ := two_cells p0; obtain ⟨cm, -⟩ := one_cell (heap_old W3 (Obj.cells #[Value.int .i64 0, Value.int .i64 0] 27) pm); have p2 := p1.alloc (Obj.cells #[Value.int .i64 0, Value.int .i64 0] 27); obtain ⟨⟨c3, c4⟩, c5, c6, c7, c8⟩ := p2.cells)
        obtain ⟨f1, f2, f3, f4⟩ := p2.store (.int .i64 0) 3 (-21)
        obtain ⟨⟨g0, _⟩, g1, g2, _, _⟩ := f1.cells
        refine ⟨_, ?_, rfl, f3 _ _ (hB3.alloc (by omega) _) (by omega)⟩
        simp [results, Try.f12, go_sem, g0, g1, g2]
    · have hm0 : ¬ m < 0 := fun h => hord (.inl h)
      have hm1 : ¬ 500000 < m := fun h => hord (.inr h)
      by_cases hmz : m = 0
      · subst hmz
        have hR : addR ws hs t 0 = (t, (0, 0)) := by unfold addR; rw [← hci]; rfl
        rw [hR]
        gi_wp2_with (gi_at_call 20; rw [← hW1]; refine CallsIn.mono (callsIn_wide.2 hcall) ?_; rintro e W3 ⟨rfl, hB⟩; obtain ⟨hB3, hs3, p0, pm, p1⟩ := key W3 hB; obtain ⟨c0, c1, -, -⟩ := two_cells p0; obtain ⟨cm, -⟩ := one_cell (heap_old W3 (Obj.cells #[Value.int .i64 0, Value.int .i64 0] 27) pm); have p2 := p1.alloc (Obj.cells #[Value.int .i64 0, Value.int .i64 0] 27); obtain ⟨⟨c3, c4⟩, c5, c6, c7, c8⟩ := p2.cells)
        obtain ⟨f1, f2, f3, f4⟩ := p2.store (.int .i64 t) 0 0
        obtain ⟨⟨g0, _⟩, g1, g2, _, _⟩ := f1.cells
        refine ⟨_, ?_, rfl, f3 _ _ (hB3.alloc (by omega) _) (by omega)⟩
        simp [results, Try.f12, go_sem, g0, g1, g2]
      · have hR : addR ws hs t m = addE (addS (str ws hs t (t + 500000)) m) := by
          unfold addR
          rw [← hci, show (decide (m < 0) || decide (m > 500000)) = false by simpa using hord, show (m == 0) = false by simpa using hmz]
          rfl
        rw [hR]
        gi_wp2_with (first | (gi_at_call 20; rw [← hW1]; refine CallsIn.mono (callsIn_wide.2 hcall) ?_; rintro e W3 ⟨rfl, hB⟩; obtain ⟨hB3, hs3, p0, pm, p1⟩ := key W3 hB; obtain ⟨c0, c1, -, -⟩ := two_cells p0; obtain ⟨cm, -⟩ := one_cell (heap_old W3 (Obj.cells #[Value.int .i64 0, Value.int .i64 0] 27) pm); obtain ⟨c5, c6, -, -⟩ := two_cells (heap_old W3 (Obj.cells #[Value.int .i64 0, Value.int .i64 0] 27) p0)) | (gi_at_call 21; refine CallsIn.mono (callsIn_wide.2 (stretches_calls _ _ _ _ _)) ?_; rintro e w' ⟨rfl, rfl⟩))
        generalize hW4 : W3.alloc (Obj.cells #[Value.int .i64 0, Value.int .i64 0] 27) = W4
        have s4 : W4.heap.size = W3.heap.size + 1 := by rw [← hW4]; simp
        have q1 : RC (W.heap.size + 1 + 1) 3 (.int .i64 0) 0 0 W4 := by rw [← hW4]; exact p1.alloc _
        have q2 : W4.heap[W.heap.size + 1]? = some (.cells #[.int .i64 m] 3 (0, 0)) := by rw [← hW4]; exact heap_old _ _ pm
        have hB4 : Below W.heap.size W W4 := by rw [← hW4]; exact hB3.alloc (by omega) _
        have hA4 : ∀ b o, A b o → b < W4.heap.size := fun b o h => by have := hA b o h; omega
        rw [show W3.heap.size + 1 = W4.heap.size from s4.symm]
        generalize hW7 : ((W4.alloc (Obj.cells #[Value.slice wa wn wc, Value.slice ha hn hc] 25)).alloc (Obj.cells #[Value.int .i64 t] 3)).alloc (Obj.cells #[Value.int .i64 (t + 500000)] 3) = W7
        have hw4 := ro_later hA hB4 hw
        have hh4 := ro_later hA hB4 hh
        obtain ⟨hM, hB7, s7⟩ := mem_str (hi := t + 500000) hA4 hw4 hh4 hW7.symm
        have q7 : RC (W.heap.size + 1 + 1) 3 (.int .i64 0) 0 0 W7 := by rw [← hW7]; exact ((q1.alloc _).alloc _).alloc _
        have q8 : W7.heap[W.heap.size + 1]? = some (.cells #[.int .i64 m] 3 (0, 0)) := by rw [← hW7]; exact heap_old _ _ (heap_old _ _ (heap_old _ _ q2))
        have hB8 : Below W.heap.size W W7 := hB4.trans (hB7.mono (by omega))
        have hcov := str_cov (ws := ws) (hs := hs) (lo := t) (hi := t + 500000) hG.ok (by omega) t0
        have hmem : ∀ x ∈ str ws hs t (t + 500000), 0 < x.2 - x.1 ∧ x.2 - x.1 ≤ 500000 ∧ 0 ≤ x.1 ∧ x.2 ≤ 20000000 := fun x hx => by have := Cov.mem hcov x hx; omega
        have z4 : W3.heap.size + 1 ≤ W4.heap.size := by omega
        have z7 : W4.heap.size + 3 ≤ W7.heap.size := by omega
        clear s4 s7
        refine range_str hA4 hw4 hh4 hG t0 (by omega) (by omega) (by omega) hW7.symm (by rfl) (by rfl)
          (fun pre W' => addS pre m = none ∧ (0 < m - lens pre ∧ 0 ≤ lens pre) ∧ W'.heap[W.heap.size + 1]? = some (.cells #[.int .i64 (m - lens pre)] 3 (0, 0)) ∧ RC (W.heap.size + 1 + 1) 3 (.int .i64 0) 0 0 W' ∧ Below W.heap.size W W')
          (fun c pre W' => ∃ r : Int, (c = .ret ∧ addS pre m = some r) ∧ RC (W.heap.size + 1 + 1) 3 (.int .i64 r) 0 0 W' ∧ Below W.heap.size W W')
          (OwnFrom.and (OwnFrom.const _) (OwnFrom.and (OwnFrom.const _) (OwnFrom.and (heap_own _ _ _ (fun _ => rfl)) (OwnFrom.and (RC.own _ _ _ _ _ _) (ownFrom_below (Nat.le_refl _) (by omega))))))
          (fun c => OwnFrom.ex fun x => OwnFrom.and (OwnFrom.const _) (OwnFrom.and (RC.own _ _ _ _ _ _) (ownFrom_below (Nat.le_refl _) (by omega))))
          ⟨rfl, ⟨by simp [lens]; omega, by simp [lens]⟩, by simpa [lens] using q8, q7, hB8⟩ ?act ?assign ?body ?done ?stop
        case assign =>
          intro l x X K hK
          gi_wp2
          exact hK
        case body =>
          rintro l pre x X ⟨r0, ⟨ra, rb⟩, r1, r2, r3⟩ hl hx
          obtain ⟨d0, d1⟩ := one_cell r1
          obtain ⟨⟨f0, f1⟩, g0, g1, g2, g3⟩ := r2.cells
          obtain ⟨x1, x2, x3, x4⟩ := hmem x hx
          have happ := (addS_append pre [x] m).2 r0
          by_cases hk : m - lens pre ≤ x.2 - x.1
          · have hres : addS (pre ++ [x]) m = some (x.1 + (m - lens pre)) := by
              rw [happ]
              simp only [addS]
              rw [if_pos hk]
            gi_wp2
            obtain ⟨k1, k2, k3, k4⟩ := r2.store (.int .i64 (x.1 + (m - lens pre))) 0 0
            exact ⟨k2, _, ⟨rfl, hres⟩, k1, k3 _ _ r3 (by omega)⟩
          · have hres : addS (pre ++ [x]) m = none := by
              rw [happ]
              simp only [addS]
              rw [if_neg hk]
            have e9 : lens (pre ++ [x]) = lens pre + (x.2 - x.1) := by rw [lens_append]; simp [lens]
            gi_wp2
            refine ⟨KeepsOthers.setCell _ _ _, ⟨by simp [World.setCell], fun b hb => Below.heap_setCell _ _ _ b (fun e => ?_)⟩, hres, ⟨by omega, by omega⟩, ?_, ⟨set_other _ _ _ _ r2.1 (by omega), set_other _ _ _ _ r2.2 (by omega)⟩, r3.setCell (p := ⟨W.heap.size + 1, 0, none⟩) (by show _ ≤ W.heap.size + 1; omega) _⟩
            · have e' : b = W.heap.size + 1 := e
              subst e'
              rcases hb with hb | hb | hb | ⟨o, ho⟩
              · omega
              · omega
              · omega
              · have := hA _ _ ho; omega
            · rw [e9, show m - (lens pre + (x.2 - x.1)) = m - lens pre - (x.2 - x.1) by omega]
              exact set_one r1 _
        case done =>
          rintro D X hD ⟨r0, _, r1, r2, r3⟩ hd
          obtain ⟨⟨f0, f1⟩, g0, g1, g2, g3⟩ := r2.cells
          gi_wp2
          obtain ⟨k1, k2, k3, k4⟩ := r2.store (.int .i64 0) 6 (-22)
          have hd' := (k4 D (by omega) (by omega)).trans hd
          refine ⟨by simp, .inl ⟨_, _, rfl, run_takeDeferred hd', ?_⟩⟩
          obtain ⟨⟨j0, _⟩, j1, j2, _, _⟩ := (k1.put (.deferred none) hd' rfl).cells
          rw [r0]
          refine ⟨_, ?_, rfl, below_put (k3 _ _ r3 (by omega)) _ hd' (by omega)⟩
          simp [results, Try.f12, go_sem, j0, j1, j2, addE]
        case stop =>
          rintro D c pre X hD hp ⟨r, ⟨rfl, h⟩, r1, r2⟩ hd
          gi_wp2
          refine ⟨by simp, .inl ⟨_, _, rfl, run_takeDeferred hd, ?_⟩⟩
          obtain ⟨⟨g0, _⟩, g1, g2, _, _⟩ := (r1.put (.deferred none) hd rfl).cells
          obtain ⟨q, hq⟩ := hp
          have hop : addE (addS (str ws hs t (t + 500000)) m) = (r, (0, 0)) := by rw [← hq, (addS_append pre q m).1 r h]; rfl
          rw [hop]
          refine ⟨_, ?_, rfl, below_put r2 _ hd (by omega)⟩
          simp [results, Try.f12, go_sem, g0, g1, g2]
  · have hR : addR ws hs t m = (0, (c, i)) := by
      unfold addR
      rw [← hci]
      have : ((c, i) == ((0, 0) : Int × Int)) = false := by
        simp only [beq_eq_false_iff_ne, ne_eq, Prod.mk.injEq, not_and]
        exact fun h => absurd h hz
      rw [this]
      rfl
    rw [hR]
    gi_wp2_with (gi_at_call 20; rw [← hW1]; refine CallsIn.mono (callsIn_wide.2 hcall) ?_; rintro e W3 ⟨rfl, hB⟩; obtain ⟨hB3, hs3, p0, pm, p1⟩ := key W3 hB; obtain ⟨c0, c1, -, -⟩ := two_cells p0)
    generalize hW4 : W3.alloc (Obj.cells #[Value.int .i64 c, Value.int .i64 i] 27) = W4
    have q3 : W4.heap[W3.heap.size]? = some (.cells #[.int .i64 c, .int .i64 i] 27 (0, 0)) := by rw [← hW4]; exact World.alloc_heap_new W3 _
    have q1 : RC (W.heap.size + 1 + 1) 3 (.int .i64 0) 0 0 W4 := by rw [← hW4]; exact p1.alloc _
    have hB4 : Below W.heap.size W W4 := by rw [← hW4]; exact hB3.alloc (by omega) _
    clear c0 c1
    obtain ⟨c0, c1, c2, c3⟩ := two_cells q3
    obtain ⟨⟨d0, d1⟩, e0, e1, e2, e3⟩ := q1.cells
    refine wpIn_wide.2 ?_
    go_region
    dsimp only [Exit.then]
    go_at_K
    gi_wp2
    obtain ⟨f1, f2, f3, f4⟩ := q1.store (.int .i64 0) c i
    obtain ⟨⟨g0, _⟩, g1, g2, _, _⟩ := f1.cells
    refine ⟨_, ?_, rfl, (f3 _ _ hB4 (by omega)).drew⟩
    simp [results, Try.f12, go_sem, g0, g1, g2]

end Ca
end Go.Proofs.Ytmnalcfclcgmkaa

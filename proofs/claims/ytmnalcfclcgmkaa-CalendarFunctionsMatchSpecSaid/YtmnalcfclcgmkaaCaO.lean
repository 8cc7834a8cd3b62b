/-
  Worked: its walk. Conditions: none.
-/
import Derived.Test.YtmnalcfclcgmkaaCaN
set_option linter.unusedVariables false
set_option linter.unusedSimpArgs false
namespace Go.Proofs.Ytmnalcfclcgmkaa
namespace Ca
open Go.RowKit Go.Shelf Eng

attribute [local go_sem] Oper.semAt_some wide_fn wide_depth wide_in_fn wide_in_depth

/-- What Worked answers. -/
def workedR (ws : List Win) (hs : List Int) (s t : Int) : Int × (Int × Int) :=
  bif chk ws hs [s, t] == (0, 0) then (bif decide (t < s) || decide (t > s + 500000) then (0, (3, -21)) else (lens (str ws hs s t), (0, 0))) else (0, chk ws hs [s, t])

/-- A fault in its cells. -/
def FC (n : Nat) (c i : Int) (W : World) : Prop := W.heap[n]? = some (.cells #[.int .i64 c, .int .i64 i] 27 (0, 0))

theorem FC.store {n : Nat} {c i : Int} {W : World} (h : FC n c i W) (c' i' : Int) :
    FC n c' i' ((W.setCell ⟨n, 0, none⟩ (.int .i64 c')).setCell ⟨n, 1, none⟩ (.int .i64 i')) ∧ (∀ (B : Nat) (a : World), Below B a W → B ≤ n → Below B a ((W.setCell ⟨n, 0, none⟩ (.int .i64 c')).setCell ⟨n, 1, none⟩ (.int .i64 i'))) ∧
      (∀ k, k ≠ n → ((W.setCell ⟨n, 0, none⟩ (.int .i64 c')).setCell ⟨n, 1, none⟩ (.int .i64 i')).heap[k]? = W.heap[k]?) :=
  ⟨set_two1 (set_two0 h _) _, fun B a hB hn => (hB.setCell (p := ⟨n, 0, none⟩) hn _).setCell (p := ⟨n, 1, none⟩) hn _, fun k hk => by rw [Below.heap_setCell _ _ _ k (by exact hk), Below.heap_setCell _ _ _ k (by exact hk)]⟩

theorem FC.put {n : Nat} {c i : Int} {W : World} (h : FC n c i W) {D : Nat} (o' : Obj) (hD : D ≠ n) : FC n c i (W.putObj D o') := (World.putObj_heap_other (fun e => hD e.symm)).trans h

theorem heap_own {β : Type} (B n : Nat) (o : β → Obj) (ho : ∀ s, (o s).isCells = true) : OwnFrom B (fun s W => W.heap[n]? = some (o s)) := fun s W W' row h hg hr => (grownBy_keeps_cells hg (fun r e => (hr r e).2) h (ho s)).trans h

set_option maxRecDepth 100000 in
set_option maxHeartbeats 4000000 in
theorem worked_calls {A : Nat → Nat → Prop} {W : World} {wa ha : Option Addr} {wn wc hn hc : Nat} {ws : List Win} {hs : List Int} (hA : ∀ b o, A b o → b < W.heap.size)
    (hw : RoV W A (.slice WT) ws [.slice wa wn wc]) (hh : RoV W A (.slice (.int .i64)) hs [.slice ha hn hc]) (s t : Int) :
    Calls Try.prog 11 #[.agg #[.slice wa wn wc, .slice ha hn hc], .int .i64 s, .int .i64 t] W fun e w' =>
      e = .returned (.tuple #[.int .i64 (workedR ws hs s t).1, .agg #[.int .i64 (workedR ws hs s t).2.1, .int .i64 (workedR ws hs s t).2.2]]) ∧ Below W.heap.size W w' := by
  obtain ⟨W1, hW1⟩ : ∃ W1, W1 = (W.alloc (Obj.cells #[Value.slice wa wn wc, Value.slice ha hn hc] 25)).alloc (Obj.cells #[Value.int .i64 0, Value.int .i64 0] 27) := ⟨_, rfl⟩
  have s1 : W1.heap.size = W.heap.size + 2 := by rw [hW1]; simp
  have hB1 : Below W.heap.size W W1 := by rw [hW1]; exact ((Below.refl _ W).alloc (Nat.le_refl _) _).alloc (by simp) _
  have b0 : W1.heap[W.heap.size]? = some (.cells #[.slice wa wn wc, .slice ha hn hc] 25 (0, 0)) := by rw [hW1]; exact heap_old _ _ (World.alloc_heap_new W _)
  have b1 : W1.heap[W.heap.size + 1]? = some (.cells #[.int .i64 0, .int .i64 0] 27 (0, 0)) := by
    rw [hW1]
    have := World.alloc_heap_new (W.alloc (Obj.cells #[Value.slice wa wn wc, Value.slice ha hn hc] 25)) (Obj.cells #[Value.int .i64 0, Value.int .i64 0] 27)
    rwa [World.size_alloc] at this
  have hcall := check_calls (W0 := W) (W := W1.alloc (Obj.cells #[Value.int .i64 s, Value.int .i64 t] 3)) (ts := [s, t]) (cap := 2) (b := W1.heap.size) hA (hB1.alloc (by omega) _) hw hh (World.alloc_heap_new W1 _) (Nat.le_refl 2) (by simp)
  obtain ⟨⟨c, i⟩, hci⟩ : ∃ p, p = chk ws hs [s, t] := ⟨_, rfl⟩
  simp only [← hci] at hcall
  simp only [s1] at hcall
  have key : ∀ W3, Below (W1.alloc (Obj.cells #[Value.int .i64 s, Value.int .i64 t] 3)).heap.size (W1.alloc (Obj.cells #[Value.int .i64 s, Value.int .i64 t] 3)) W3 →
      Below W.heap.size W W3 ∧ W.heap.size + 3 ≤ W3.heap.size ∧ W3.heap[W.heap.size]? = some (.cells #[.slice wa wn wc, .slice ha hn hc] 25 (0, 0)) ∧ FC (W.heap.size + 1) 0 0 W3 := fun W3 hB =>
    ⟨(hB1.alloc (by omega) _).trans (hB.mono (by simp; omega)), by have := hB.size; simp at this; omega, heap_below hB (heap_old _ _ b0) (by simp; omega), heap_below hB (heap_old _ _ b1) (by simp; omega)⟩
  obtain ⟨v1, v2⟩ := chk_code ws hs [s, t]
  rw [← hci] at v1 v2
  refine (callsIn_wide (n := 1)).1 (callsIn_of_wp_marks Try.func11 rfl trivial ?_ rfl)
  simp only [Try.ntmps11, List.size_toArray, List.length_cons, List.length_nil, Nat.reduceAdd, Nat.reduceSub, Array.replicate_succ, Array.replicate_zero, List.push_toArray, List.append_toArray, List.nil_append, List.cons_append]
  by_cases hz : c = 0
  · obtain rfl : i = 0 := by
      have := v1 hz
      simp only [Prod.mk.injEq] at this
      exact this.2
    subst hz
    obtain ⟨hG, hT⟩ := v2 rfl
    obtain ⟨u0, u1⟩ := hT s (by simp)
    obtain ⟨t0, t1⟩ := hT t (by simp)
    by_cases hord : t < s ∨ t > s + 500000
    · have hR : workedR ws hs s t = (0, (3, -21)) := by
        unfold workedR
        rw [← hci, show (decide (t < s) || decide (t > s + 500000)) = true by simpa using hord]
        rfl
      rw [hR]
      have e1 : IntKind.i64.wrap (s + 500000) = s + 500000 := by rw [IntKind.wrap_i64]; omega
      by_cases hts : t < s
      · gi_wp2_with (gi_at_call 20; rw [← hW1]; refine CallsIn.mono (callsIn_wide.2 hcall) ?_; rintro e W3 ⟨rfl, hB⟩; obtain ⟨hB3, hs3, p0, p1⟩ := key W3 hB; obtain ⟨c0, c1, -, -⟩ := two_cells p0; have p2 : FC (W.heap.size + 1) 0 0 (W3.alloc (Obj.cells #[Value.int .i64 0, Value.int .i64 0] 27)) := heap_old _ _ p1; obtain ⟨c5, c6, c7, c8⟩ := two_cells p2)
        obtain ⟨f1, f3, f4⟩ := p2.store 3 (-21)
        obtain ⟨g1, g2, _, _⟩ := two_cells f1
        refine ⟨_, ?_, rfl, f3 _ _ (hB3.alloc (by omega) _) (by omega)⟩
        simp [results, Try.f11, go_sem, g1, g2]
      · have hgt : s + 500000 < t := by omega
        gi_wp2_with (gi_at_call 20; rw [← hW1]; refine CallsIn.mono (callsIn_wide.2 hcall) ?_; rintro e W3 ⟨rfl, hB⟩; obtain ⟨hB3, hs3, p0, p1⟩ := key W3 hB; obtain ⟨c0, c1, -, -⟩ := two_cells p0; have p2 : FC (W.heap.size + 1) 0 0 (W3.alloc (Obj.cells #[Value.int .i64 0, Value.int .i64 0] 27)) := heap_old _ _ p1; obtain ⟨c5, c6, c7, c8⟩ := two_cells p2)
        obtain ⟨f1, f3, f4⟩ := p2.store 3 (-21)
        obtain ⟨g1, g2, _, _⟩ := two_cells f1
        refine ⟨_, ?_, rfl, f3 _ _ (hB3.alloc (by omega) _) (by omega)⟩
        simp [results, Try.f11, go_sem, g1, g2]
    · have hR : workedR ws hs s t = (lens (str ws hs s t), (0, 0)) := by
        unfold workedR
        rw [← hci, show (decide (t < s) || decide (t > s + 500000)) = false by simpa using hord]
        rfl
      rw [hR]
      have hts : ¬ t < s := fun h => hord (.inl h)
      have hgt : ¬ s + 500000 < t := fun h => hord (.inr h)
      gi_wp2_with (first | (gi_at_call 20; rw [← hW1]; refine CallsIn.mono (callsIn_wide.2 hcall) ?_; rintro e W3 ⟨rfl, hB⟩; obtain ⟨hB3, hs3, p0, p1⟩ := key W3 hB; obtain ⟨c0, c1, -, -⟩ := two_cells p0; obtain ⟨c5, c6, -, -⟩ := two_cells (heap_old (W3.alloc (Obj.cells #[Value.int .i64 0, Value.int .i64 0] 27)) (Obj.cells #[Value.int .i64 0] 3) (heap_old W3 (Obj.cells #[Value.int .i64 0, Value.int .i64 0] 27) p0))) | (gi_at_call 21; refine CallsIn.mono (callsIn_wide.2 (stretches_calls _ _ _ _ _)) ?_; rintro e w' ⟨rfl, rfl⟩))
      generalize hW5 : W3.alloc (Obj.cells #[Value.int .i64 0, Value.int .i64 0] 27) = W5
      have s5 : W5.heap.size = W3.heap.size + 1 := by rw [← hW5]; simp
      rw [show W3.heap.size + 1 = W5.heap.size from s5.symm]
      generalize hW4 : W5.alloc (Obj.cells #[Value.int .i64 0] 3) = W4
      have s4 : W4.heap.size = W5.heap.size + 1 := by rw [← hW4]; simp
      have q1 : FC (W.heap.size + 1) 0 0 W4 := by rw [← hW4, ← hW5]; exact heap_old _ _ (heap_old _ _ p1)
      have q2 : W4.heap[W5.heap.size]? = some (.cells #[.int .i64 0] 3 (0, 0)) := by rw [← hW4]; exact World.alloc_heap_new W5 _
      have hB4 : Below W.heap.size W W4 := by rw [← hW4, ← hW5]; exact (hB3.alloc (by omega) _).alloc (by simp; omega) _
      have hA4 : ∀ b o, A b o → b < W4.heap.size := fun b o h => by have := hA b o h; omega
      rw [show W5.heap.size + 1 = W4.heap.size from s4.symm]
      generalize hW7 : ((W4.alloc (Obj.cells #[Value.slice wa wn wc, Value.slice ha hn hc] 25)).alloc (Obj.cells #[Value.int .i64 s] 3)).alloc (Obj.cells #[Value.int .i64 t] 3) = W7
      have hw4 := ro_later hA hB4 hw
      have hh4 := ro_later hA hB4 hh
      obtain ⟨hM, hB7, s7⟩ := mem_str hA4 hw4 hh4 hW7.symm
      have q7 : FC (W.heap.size + 1) 0 0 W7 := by rw [← hW7]; exact heap_old _ _ (heap_old _ _ (heap_old _ _ q1))
      have q8 : W7.heap[W5.heap.size]? = some (.cells #[.int .i64 0] 3 (0, 0)) := by rw [← hW7]; exact heap_old _ _ (heap_old _ _ (heap_old _ _ q2))
      have hB8 : Below W.heap.size W W7 := hB4.trans (hB7.mono (by omega))
      have hcov := str_cov (ws := ws) (hs := hs) (lo := s) (hi := t) hG.ok (by omega) u0
      have hmem : ∀ x ∈ str ws hs s t, 0 < x.2 - x.1 ∧ x.2 - x.1 ≤ 500000 ∧ 0 ≤ x.1 ∧ x.2 ≤ 10000000 := fun x hx => by have := Cov.mem hcov x hx; omega
      have hlen : ((str ws hs s t).length : Int) ≤ 500000 := by
        have h1 := (lens_le (str ws hs s t) 500000 (fun x hx => by have := hmem x hx; omega)).1
        have h2 := Cov.lens u0 (by omega) hcov
        have h3 := cnt_mono (op ws hs) u0 (show s ≤ t by omega)
        omega
      have z5 : W3.heap.size + 1 ≤ W5.heap.size := by omega
      have z4 : W5.heap.size + 1 ≤ W4.heap.size := by omega
      have z7 : W4.heap.size + 3 ≤ W7.heap.size := by omega
      clear s5 s4 s7
      refine range_str hA4 hw4 hh4 hG u0 (by omega) (by omega) (by omega) hW7.symm (by rfl) (by rfl)
        (fun pre W' => (∀ x ∈ pre, x ∈ str ws hs s t) ∧ W'.heap[W5.heap.size]? = some (.cells #[.int .i64 (lens pre)] 3 (0, 0)) ∧ FC (W.heap.size + 1) 0 0 W' ∧ Below W.heap.size W W')
        (fun _ _ _ => False)
        (OwnFrom.and (OwnFrom.const _) (OwnFrom.and (heap_own _ _ _ (fun _ => rfl)) (OwnFrom.and (heap_own _ _ (fun _ => .cells #[.int .i64 0, .int .i64 0] 27 (0, 0)) (fun _ => rfl)) (ownFrom_below (Nat.le_refl _) (by omega)))))
        (fun c => fun _ _ _ _ h _ _ => h) ⟨(fun x hx => by simp at hx), q8, q7, hB8⟩ ?act ?assign ?body ?done ?stop
      case assign =>
        intro l x X K hK
        gi_wp2
        exact hK
      case body =>
        rintro l pre x X ⟨r0, r1, r2, r3⟩ hl hx
        obtain ⟨d0, d1⟩ := one_cell r1
        obtain ⟨x1, x2, x3, x4⟩ := hmem x hx
        obtain ⟨y1, y2⟩ := lens_le pre 500000 (fun y hy => by have := hmem y (r0 y hy); omega)
        have y3 : lens pre ≤ 250000000000 := by omega
        have y4 : 0 ≤ lens pre := by omega
        clear y1 y2
        gi_wp2
        have e9 : lens (pre ++ [x]) = lens pre + (x.2 - x.1) := by rw [lens_append]; simp [lens]
        refine ⟨KeepsOthers.setCell _ _ _, ⟨by simp [World.setCell], fun b hb => Below.heap_setCell _ _ _ b (fun e => ?_)⟩, fun y hy => ?_, ?_, set_other _ _ _ _ r2 (by omega), r3.setCell (p := ⟨W5.heap.size, 0, none⟩) (by show _ ≤ W5.heap.size; omega) _⟩
        · have e' : b = W5.heap.size := e
          subst e'
          rcases hb with hb | hb | hb | ⟨o, ho⟩
          · omega
          · omega
          · omega
          · have := hA _ _ ho; omega
        · rcases List.mem_append.1 hy with hy | hy
          · exact r0 y hy
          · rw [List.mem_singleton.1 hy]; exact hx
        · rw [e9]
          exact set_one r1 _
      case done =>
        rintro D X hD ⟨r0, r1, r2, r3⟩ hd
        obtain ⟨d0, d1⟩ := one_cell r1
        obtain ⟨e0, e1, e2, e3⟩ := two_cells r2
        gi_wp2
        obtain ⟨f1, f3, f4⟩ := r2.store 0 0
        have hd' := (f4 D (by omega)).trans hd
        refine ⟨by simp, .inl ⟨_, _, rfl, run_takeDeferred hd', ?_⟩⟩
        obtain ⟨g1, g2, _, _⟩ := two_cells (f1.put (.deferred none) (show D ≠ W.heap.size + 1 by omega))
        refine ⟨_, ?_, rfl, below_put (f3 _ _ r3 (by omega)) _ hd' (by omega)⟩
        simp [results, Try.f11, go_sem, g1, g2]
      case stop =>
        rintro D c pre X hD hp h hd
        exact h.elim
  · have hR : workedR ws hs s t = (0, (c, i)) := by
      unfold workedR
      rw [← hci]
      have : ((c, i) == ((0, 0) : Int × Int)) = false := by
        simp only [beq_eq_false_iff_ne, ne_eq, Prod.mk.injEq, not_and]
        exact fun h => absurd h hz
      rw [this]
      rfl
    rw [hR]
    gi_wp2_with (gi_at_call 20; rw [← hW1]; refine CallsIn.mono (callsIn_wide.2 hcall) ?_; rintro e W3 ⟨rfl, hB⟩; obtain ⟨hB3, hs3, p0, p1⟩ := key W3 hB; obtain ⟨c0, c1, -, -⟩ := two_cells p0)
    generalize hW4 : W3.alloc (Obj.cells #[Value.int .i64 c, Value.int .i64 i] 27) = W4
    have q3 : W4.heap[W3.heap.size]? = some (.cells #[.int .i64 c, .int .i64 i] 27 (0, 0)) := by rw [← hW4]; exact World.alloc_heap_new W3 _
    have q1 : FC (W.heap.size + 1) 0 0 W4 := by rw [← hW4]; exact heap_old _ _ p1
    have hB4 : Below W.heap.size W W4 := by rw [← hW4]; exact hB3.alloc (by omega) _
    clear c0 c1
    obtain ⟨c0, c1, c2, c3⟩ := two_cells q3
    obtain ⟨e0, e1, e2, e3⟩ := two_cells q1
    refine wpIn_wide.2 ?_
    go_region
    dsimp only [Exit.then]
    go_at_K
    gi_wp2
    obtain ⟨f1, f3, f4⟩ := q1.store c i
    obtain ⟨g1, g2, _, _⟩ := two_cells f1
    refine ⟨_, ?_, rfl, (f3 _ _ hB4 (by omega)).drew⟩
    simp [results, Try.f11, go_sem, g1, g2]

end Ca
end Go.Proofs.Ytmnalcfclcgmkaa

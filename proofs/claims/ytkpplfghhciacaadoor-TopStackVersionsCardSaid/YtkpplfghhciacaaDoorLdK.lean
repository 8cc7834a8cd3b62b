/-
  slices.Insert at a struct's rows, as a function that is handed the rows. Conditions: none.
-/
import Derived.Test.YtkpplfghhciacaaDoorLdJ
namespace Go.Proofs.YtkpplfghhciacaaDoor
namespace Ins
open Go.RowKit Go.Lib Go.Proofs.YtkpplfghhciacaaDoor.Eng

/-- What is known of a row that has elements. -/
theorem row_of {w0 : Base} {c : Cfg} (hr : Rel w0 c) {r : Nat} {xs : List TT.den} {u : Value} (hst : c.st[r]? = some (.vec TT 0 xs)) (hv : RelV c (.vec r) u) (hne : xs.length ≠ 0) :
    ∃ b ce e cap, c.bl r = some b ∧ c.w.heap[b]? = some (.cells ce e (0, 0)) ∧ ce.size = cap * 2 ∧ xs.length ≤ cap ∧ RowsR (RoV c.w c.A TT) 2 xs ce.toList ∧ (∀ o, ¬ c.A b o) ∧ u = .slice (some ⟨b, 0, none⟩) xs.length cap := by
  simp only [RelV, hst] at hv
  obtain ⟨hpos, _, ⟨_, h2⟩ | ⟨b, ce, e, cap, h1, h2, h3, h4, h5, h6⟩⟩ := hr.obj r _ hst
  · exact absurd (by rw [h2]; rfl) hne
  rcases hv with ⟨hb, _⟩ | ⟨b', cap', hb, rfl, hrows⟩
  · rw [h1] at hb; cases hb
  rw [h1] at hb; cases hb
  obtain rfl := cap_eq h2 h3 hpos hrows
  exact ⟨b, ce, e, cap', h1, h2, h3, h4, h5, fun o => h6 o (by rw [Nat.zero_mul]; exact Nat.zero_le _), rfl⟩

theorem take_rows {w : World} {A : Nat → Nat → Prop} {ys : List TT.den} {ve : Array Value} {vcap : Nat} (h : RowsR (RoV w A TT) 2 ys ve.toList) (hs : ve.size = vcap * 2) (hl : ys.length ≤ vcap) :
    RowsR (RoV w A TT) 2 ys (ve.toList.take (ys.length * 2)) ∧ (ve.toList.take (ys.length * 2)).length = ys.length * 2 := by
  have h1 : ys.length * 2 ≤ ve.toList.length := by
    have : ve.toList.length = vcap * 2 := by simpa using hs
    omega
  exact ⟨RowsR.take h h1, by rw [List.length_take]; omega⟩

theorem first_of {w : World} {b o n len cap : Nat} {ce : Array Value} {e : TypeId} {fz : Nat × Nat} {l : List Value} (hh : w.heap[b]? = some (.cells ce e fz)) (hl : l = (ce.toList.drop o).take (n * 2)) (hn : o + n * 2 ≤ ce.size) :
    (Builtin.firstCells 2 n (.slice (some ⟨b, o, none⟩) len cap)).run Tryd.prog w = .ok l.toArray w := by
  refine firstCells_cells w b o _ _ _ _ _ (by rw [hl, List.length_take, List.length_drop, Array.length_toList]; omega) fun k u hk => ?_
  rw [cell_of_row _ _ _ _ _ _ hh]
  rw [hl, List.getElem?_take] at hk
  split at hk
  · rw [List.getElem?_drop] at hk
    simpa using hk
  · cases hk

/-- The whole of the new row. -/
theorem rows_all {w : World} {A : Nat → Nat → Prop} {xs ys : List TT.den} {L0 L X R : List Value} {i : Nat} (hi : i ≤ xs.length)
    (h0 : RowsR (RoV w A TT) 2 (xs.take i) L0) (l0 : L0.length = (xs.take i).length * 2) (h1 : RowsR (RoV w A TT) 2 ys L) (l1 : L.length = ys.length * 2) (h2 : RowsR (RoV w A TT) 2 (xs.drop i) X) (l2 : X.length = (xs.drop i).length * 2) :
    RowsR (RoV w A TT) 2 (xs.take i ++ ys ++ xs.drop i) (L0 ++ L ++ X ++ R) := by
  have h := RowsR.append (l3 := []) h0 l0 h1 l1
  rw [List.append_nil] at h
  exact RowsR.append h (by simp only [List.length_append, l0, l1]; omega) h2 l2

theorem big48 {k : Nat} (h : k ≤ 1073741824) : (2 * k + 1024) * 65536 ≤ 281474976710656 := by omega

set_option maxHeartbeats 1600000 in
theorem ins_sound {w0 : Base} {c : Cfg} (hr : Rel w0 c) {r q : Nat} {xs ys : List TT.den} {u v : Value} {i : Nat} (hst : c.st[r]? = some (.vec TT 0 xs)) (hsq : c.st[q]? = some (.vec TT 0 ys)) (hne : r ≠ q)
    (hu : RelV c (.vec r) u) (hv : RelV c (.vec q) v) (hi : i ≤ xs.length) (hy : ys.length ≠ 0) (hfit : fits (xs.length + ys.length)) :
    Calls Tryd.prog 64 #[u, .int .i64 i, v] c.w fun e w' => ∃ v c', e = .returned v ∧ c'.w = w' ∧ Rel w0 c' ∧ Ext c c' ∧ RelV c' (.vec c.st.length) v ∧ c'.st = c.st.set r .dead ++ [.vec TT 0 (xs.take i ++ ys ++ xs.drop i)] := by
  obtain ⟨vb, ve, te, vcap, v1, v2, v3, v4, v5, v6, rfl⟩ := row_of hr hsq hv hy
  have hfit' := hfit
  unfold fits at hfit'
  by_cases hin : i = xs.length
  · subst hin
    obtain ⟨u', c', g1, g2, g3, g4, g5⟩ := append_sound (P := Tryd.prog) (sv := .vec r) (xv := .vec q) (t := TT) (xs := xs) (ys := ys) (f := 0) (sT := 39) (xT := 39) (e := 53) (ts := #[39, 39]) (ty := 0) hr hu hv
      (by simp only [atarget, hst]; rfl) (by simp only [arows, hsq]; rfl) rfl rfl und (by kernel_rfl) hok hfit
    have hbase : ∃ base cap, u = .slice base xs.length cap ∧ xs.length ≤ cap ∧ (base = none → xs.length = 0 ∧ cap = 0) := by
      simp only [RelV, hst] at hu
      obtain ⟨hpos, _, ⟨_, h2⟩ | ⟨b, ce, e, cap, h1, h2, h3, h4, h5, h6⟩⟩ := hr.obj r _ hst
      · have : xs.length = 0 := by rw [h2]; rfl
        rcases hu with ⟨_, rfl⟩ | ⟨b', cap', hb, _⟩
        · exact ⟨none, 0, by rw [this], by omega, fun _ => ⟨this, rfl⟩⟩
        · simp_all
      · rcases hu with ⟨hb, _⟩ | ⟨b', cap', hb, rfl, hrows⟩
        · rw [h1] at hb; cases hb
        · rw [h1] at hb; cases hb
          obtain rfl := cap_eq h2 h3 hpos hrows
          exact ⟨_, _, rfl, h4, fun h => by cases h⟩
    obtain ⟨base, cap, rfl, hc, hnil⟩ := hbase
    refine (ins_end base xs.length cap vb ys.length vcap c.w c'.w u' (by omega) hc (by omega) hnil fun ty => g1).mono ?_
    rintro en w' ⟨rfl, rfl⟩
    refine ⟨_, c', rfl, rfl, g2, g3, g5, ?_⟩
    rw [g4]
    simp [killO]
  · have hlt : i < xs.length := by omega
    obtain ⟨b, ce, e, cap, h1, h2, h3, h4, h5, h6, rfl⟩ := row_of hr hst hu (by omega)
    have hvb : vb ≠ b := fun hh => by
      subst hh
      exact hne (hr.inj r q vb (live_of hst (by simp)) (live_of hsq (by simp)) h1 v1)
    have hce : ce.toList.length = cap * 2 := by simpa using h3
    have hxl : xs.length * 2 ≤ ce.toList.length := by rw [hce]; exact Nat.mul_le_mul_right _ h4
    obtain ⟨p1, p2⟩ := rows_pre (k := i) (by omega) hxl h5
    obtain ⟨q1, q2⟩ := rows_mid (k := i) hxl h5
    obtain ⟨l1, l2⟩ := take_rows v5 v3 v4
    obtain ⟨X, hX⟩ : ∃ X, X = (ce.toList.drop (i * 2)).take ((xs.length - i) * 2) := ⟨_, rfl⟩
    rw [← hX] at q1 q2
    have hXl : X.length = (xs.length - i) * 2 := by rw [q2, List.length_drop]
    have hX1 : ∀ v ∈ X, v.oneCell' = true := RowsR.one q1 q2 (by decide)
    obtain ⟨L, hL⟩ : ∃ L, L = ve.toList.take (ys.length * 2) := ⟨_, rfl⟩
    rw [← hL] at l1 l2
    have hL1 : ∀ v ∈ L, v.oneCell' = true := RowsR.one l1 l2 (by decide)
    have hr1 := (drew_rel hr).1
    have hx1 := (drew_rel hr).2
    have hlenN : (xs.take i ++ ys ++ xs.drop i).length = xs.length + ys.length := by simp; omega
    by_cases hroom : xs.length + ys.length ≤ cap
    · -- in place
      obtain ⟨ce1, hce1⟩ : ∃ ce1, ce1 = (ce.toList.take ((i + ys.length) * 2) ++ X ++ ce.toList.drop ((i + ys.length) * 2 + X.length)).toArray := ⟨_, rfl⟩
      obtain ⟨ce2, hce2⟩ : ∃ ce2, ce2 = (ce1.toList.take (i * 2) ++ L ++ ce1.toList.drop (i * 2 + L.length)).toArray := ⟨_, rfl⟩
      have hd : c.w.drew.heap[b]? = some (.cells ce e (0, 0)) := h2
      have hs1 := run_storeCells_at (P := Tryd.prog) b ((i + ys.length) * 2) e X 0 ce c.w.drew hd (by rw [hXl]; omega) hX1
      simp only [Nat.add_zero, ← hce1] at hs1
      have hl1 : ce1.size = cap * 2 := by
        rw [hce1]
        simp only [List.size_toArray, List.length_append, List.length_take, List.length_drop, hXl]
        omega
      have hh1 : (c.w.drew.setRow b ce1).heap[b]? = some (.cells ce1 e (0, 0)) := setRow_heap _ _ _ _ _ _ hd
      have hs2 := run_storeCells_at (P := Tryd.prog) b (i * 2) e L 0 ce1 (c.w.drew.setRow b ce1) hh1 (by rw [l2]; omega) hL1
      simp only [Nat.add_zero, ← hce2, setRow_setRow] at hs2
      have hcp1 : ∀ ty dc sc, (Builtin.copy_ #[39, 39] ty #[.slice (some ⟨b, (i + ys.length) * 2, none⟩) (xs.length + ys.length - (i + ys.length)) dc, .slice (some ⟨b, i * 2, none⟩) (xs.length + ys.length - i) sc]).run Tryd.prog c.w.drew = .ok (goInt ((xs.length - i : Nat) : Int)) (c.w.drew.setRow b ce1) := fun ty dc sc =>
        run_copy (n := xs.length + ys.length - (i + ys.length)) (m := xs.length + ys.length - i) rfl (by simp only [Nat.min_def]; split <;> omega) (first_of hd hX (by omega)) hs1
      have hcp2 : ∀ ty dc, (Builtin.copy_ #[39, 39] ty #[.slice (some ⟨b, i * 2, none⟩) (xs.length + ys.length - i) dc, .slice (some ⟨vb, 0, none⟩) ys.length vcap]).run Tryd.prog (c.w.drew.setRow b ce1) = .ok (goInt ys.length) (c.w.drew.setRow b ce2) := fun ty dc =>
        run_copy (n := xs.length + ys.length - i) (m := ys.length) rfl (by simp only [Nat.min_def]; split <;> omega) (first_of ((setRow_other c.w.drew b vb ce1 hvb).trans v2) (by rw [hL]; rfl) (by omega)) hs2
      have hov : ∀ lb cb, (Extern.SlicesOverlaps.overlaps #[39, 39] #[4] #[.slice (some ⟨vb, 0, none⟩) ys.length vcap, .slice (some ⟨b, (i + ys.length) * 2, none⟩) lb cb]).run Tryd.prog c.w = .ok (.bool false) c.w := fun lb cb =>
        Lib.run_overlaps_apart c.w 39 4 53 und 2 sz53 ⟨vb, 0, none⟩ ⟨b, (i + ys.length) * 2, none⟩ ys.length vcap lb cb hvb te e ve.size ce.size (by simp [World.shape?, v2]) (by simp [World.shape?, h2]) (by omega) (by simp [World.frozen?, v2]) (by simp [World.frozen?, v2])
      refine (ins_shift b xs.length cap i vb ys.length vcap c.w _ _ _ _ hlt (by omega) hroom (by omega) hvb hov hcp1 hcp2).mono ?_
      rintro en w' ⟨rfl, rfl⟩
      have hl2 : ce2.size = cap * 2 := by
        have hl1' : ce1.toList.length = cap * 2 := by simpa using hl1
        rw [hce2]
        simp only [List.size_toArray, List.length_append, List.length_take, List.length_drop, l2]
        omega
      have e2 : ce2.toList = ce.toList.take (i * 2) ++ L ++ X ++ ce.toList.drop ((i + ys.length) * 2 + X.length) := by
        have e1 : ce1.toList.take (i * 2) = ce.toList.take (i * 2) := by
          rw [hce1]
          rw [List.append_assoc, List.take_append_of_le_length (by rw [List.length_take]; omega), List.take_take, Nat.min_eq_left (by omega)]
        have e3 : ce1.toList.drop (i * 2 + L.length) = X ++ ce.toList.drop ((i + ys.length) * 2 + X.length) := by
          have hl : (ce.toList.take ((i + ys.length) * 2)).length = i * 2 + L.length := by rw [List.length_take, l2]; omega
          rw [hce1, ← hl, List.append_assoc]
          simp only [List.drop_left]
        rw [hce2]
        simp only [e1, e3, List.append_assoc]
      have hrow2 : RowsR (RoV c.w.drew c.A TT) 2 (xs.take i ++ ys ++ xs.drop i) ce2.toList := by
        rw [e2]
        exact rows_all hi p1 p2 l1 l2 q1 q2
      obtain ⟨c', g1, g2, g3, g4, g5⟩ := adopt_vec (c := { c with w := c.w.drew }) (zs := xs.take i ++ ys ++ xs.drop i) hr1 (r := r) (b := b) (t := TT) (xs := xs) (ce := ce) (ce2 := ce2) (e := e) (cap := cap) hst h1 h2 (by decide) h6 hl2 (by rw [hlenN]; exact hroom) hrow2
      refine ⟨_, c', rfl, g1, g2, hx1.trans g3, ?_, g4⟩
      rw [hlenN] at g5
      exact g5
    · -- in a new block
      obtain ⟨i0, z, hi0, hsz0, _, hb1, hb2, hz0, hzs⟩ := elemOk_sound hok
      have hsz : i0.size = 2 := hsz0
      have hzs' : z.cells.size = 2 := hzs
      obtain ⟨G, hG⟩ : ∃ G, G = grownCap c.w (xs.length + ys.length) cap 53 := ⟨_, rfl⟩
      have hGn : xs.length + ys.length ≤ G := by rw [hG]; exact grownCap_ge c.w _ _ _
      have hG63 : G ≤ 9223372036854775807 := by
        have h := grownCap_le_maxLen c.w (xs.length + ys.length) cap 53 (by unfold maxLen; omega)
        rw [← hG] at h
        unfold maxLen at h
        omega
      obtain ⟨g, hg⟩ : ∃ g, g = c.w.heap.size := ⟨_, rfl⟩
      obtain ⟨Z, hZ⟩ : ∃ Z, Z = (Builtin.zeroCells z.cells (xs.length + ys.length - i) ++ Builtin.zeroCells z.cells (G - (xs.length + ys.length))).toList := ⟨_, rfl⟩
      have hZl : Z.length = (xs.length + ys.length - i) * 2 + (G - (xs.length + ys.length)) * 2 := by
        rw [hZ]
        simp [Builtin.zeroCells, hzs']
      have hL0l : (ce.toList.take (i * 2)).length = i * 2 := by rw [List.length_take]; omega
      obtain ⟨R0, hR0⟩ : ∃ R0, R0 = (ce.toList.take (i * 2) ++ Z).toArray := ⟨_, rfl⟩
      have hR0l : R0.size = G * 2 := by
        rw [hR0]
        simp only [List.size_toArray, List.length_append, hL0l, hZl]
        omega
      have hnx := Eng.nextslicecap_le (need := xs.length + ys.length) (cap := cap) (by omega)
      have hbig : Builtin.nextslicecap (xs.length + ys.length) cap * i0.bytes ≤ 281474976710656 := by
        have h : Builtin.nextslicecap (xs.length + ys.length) cap * i0.bytes ≤ (2 * (xs.length + ys.length) + 1024) * 65536 := Nat.mul_le_mul hnx hb1
        exact Nat.le_trans h (big48 hfit')
      have h48 : (xs.length + ys.length - i) * i0.bytes ≤ 281474976710656 := by
        have h : (xs.length + ys.length - i) * i0.bytes ≤ 1073741824 * 65536 := Nat.mul_le_mul (by omega) hb1
        omega
      have hd : c.w.drew.heap[b]? = some (.cells ce e (0, 0)) := h2
      have hik : i + (xs.length + ys.length - i) = xs.length + ys.length := by omega
      obtain ⟨w1, hw1⟩ : ∃ w1, w1 = c.w.drew.alloc (.cells R0 53) := ⟨_, rfl⟩
      have hrz : ∀ ty, (Builtin.append_ #[39, 3] ty #[.slice (some ⟨b, 0, none⟩) i cap, .int .i64 ((xs.length : Int) + (ys.length : Int) - (i : Int))]).run Tryd.prog c.w = .ok (.slice (some ⟨g, 0, none⟩) (xs.length + ys.length) G) w1 := fun ty => by
        have h := Lib.run_append_grow_zeros c.w 39 3 ty 53 i0 z .i64 .i64 und (by kernel_rfl) hi0 hz0 (some ⟨b, 0, none⟩) i cap (ce.toList.take (i * 2)) (by rw [hsz]; exact first_of hd rfl (by omega)) (xs.length + ys.length - i) (by omega) (by omega) (by omega) (by omega) h48 (by rw [hik]; exact hbig)
        rw [hik, ← hG, ← hg] at h
        have e1 : (xs.length : Int) + (ys.length : Int) - (i : Int) = ((xs.length + ys.length - i : Nat) : Int) := by omega
        have e2 : (ce.toList.take (i * 2)).toArray ++ Builtin.zeroCells z.cells (xs.length + ys.length - i) ++ Builtin.zeroCells z.cells (G - (xs.length + ys.length)) = R0 := by
          rw [hR0, hZ]
          apply Array.ext'
          simp
        rw [e1, h, hw1, e2]
      have hh1 : w1.heap[g]? = some (.cells R0 53 (0, 0)) := by rw [hw1, hg]; exact heap_new c.w.drew _
      have hold : ∀ k, k < g → w1.heap[k]? = c.w.heap[k]? := fun k hk => by
        rw [hw1]
        show (c.w.heap.push _)[k]? = _
        rw [Array.getElem?_push, if_neg (by omega)]
      have hbg : b < g := by rw [hg]; exact (Array.getElem?_eq_some_iff.1 h2).1
      have hvg : vb < g := by rw [hg]; exact (Array.getElem?_eq_some_iff.1 v2).1
      obtain ⟨R1, hR1⟩ : ∃ R1, R1 = (R0.toList.take (i * 2) ++ L ++ R0.toList.drop (i * 2 + L.length)).toArray := ⟨_, rfl⟩
      obtain ⟨R2, hR2⟩ : ∃ R2, R2 = (R1.toList.take ((i + ys.length) * 2) ++ X ++ R1.toList.drop ((i + ys.length) * 2 + X.length)).toArray := ⟨_, rfl⟩
      have hR0l' : R0.toList.length = G * 2 := by simpa using hR0l
      have hR1l' : R1.toList.length = G * 2 := by
        rw [hR1]
        simp only [List.length_append, List.length_take, List.length_drop, l2]
        omega
      have hR1l : R1.size = G * 2 := by simpa using hR1l'
      have hR2l : R2.size = G * 2 := by
        rw [hR2]
        simp only [List.size_toArray, List.length_append, List.length_take, List.length_drop, hXl]
        omega
      have hs1 := run_storeCells_at (P := Tryd.prog) g (i * 2) 53 L 0 R0 w1 hh1 (by rw [l2]; omega) hL1
      simp only [Nat.add_zero, ← hR1] at hs1
      have hh2 : (w1.setRow g R1).drew.heap[g]? = some (.cells R1 53 (0, 0)) := setRow_heap _ _ _ _ _ _ hh1
      have hs2 := run_storeCells_at (P := Tryd.prog) g ((i + ys.length) * 2) 53 X 0 R1 (w1.setRow g R1).drew hh2 (by rw [hXl]; omega) hX1
      simp only [Nat.add_zero, ← hR2] at hs2
      have hcpA : ∀ ty dc, (Builtin.copy_ #[39, 39] ty #[.slice (some ⟨g, i * 2, none⟩) (xs.length + ys.length - i) dc, .slice (some ⟨vb, 0, none⟩) ys.length vcap]).run Tryd.prog w1 = .ok (goInt ys.length) (w1.setRow g R1) := fun ty dc =>
        run_copy (n := xs.length + ys.length - i) (m := ys.length) rfl (by simp only [Nat.min_def]; split <;> omega) (first_of ((hold vb hvg).trans v2) (by rw [hL]; rfl) (by omega)) hs1
      have hbb : (w1.setRow g R1).drew.heap[b]? = some (.cells ce e (0, 0)) := (setRow_other w1 g b R1 (by omega)).trans ((hold b hbg).trans h2)
      have hcpB : ∀ ty dc sc, (Builtin.copy_ #[39, 39] ty #[.slice (some ⟨g, (i + ys.length) * 2, none⟩) (xs.length + ys.length - (i + ys.length)) dc, .slice (some ⟨b, i * 2, none⟩) (xs.length - i) sc]).run Tryd.prog (w1.setRow g R1).drew = .ok (goInt ((xs.length - i : Nat) : Int)) ((w1.setRow g R1).drew.setRow g R2) := fun ty dc sc =>
        run_copy (n := xs.length + ys.length - (i + ys.length)) (m := xs.length - i) rfl (by simp only [Nat.min_def]; split <;> omega) (first_of hbb hX (by omega)) hs2
      refine (ins_grow b xs.length cap i vb ys.length vcap g G c.w _ _ _ _ _ hlt (by omega) h4 (by omega) (by omega) hGn hG63 hrz hcpA hcpB).mono ?_
      rintro en w' ⟨rfl, rfl⟩
      have hrow2 : RowsR (RoV c.w.drew.drew c.A TT) 2 (xs.take i ++ ys ++ xs.drop i) R2.toList := by
        have e0 : R0.toList.take (i * 2) = ce.toList.take (i * 2) := by
          rw [hR0]
          simp only [List.toList_toArray]
          rw [List.take_append_of_le_length (by omega), List.take_take, Nat.min_self]
        have e1 : R1.toList.take ((i + ys.length) * 2) = ce.toList.take (i * 2) ++ L := by
          have hl : (ce.toList.take (i * 2) ++ L).length = (i + ys.length) * 2 := by rw [List.length_append, hL0l, l2]; omega
          rw [hR1, e0, ← hl]
          simp only [List.take_left]
        rw [hR2, e1]
        exact rows_all hi p1 p2 l1 l2 q1 q2
      have hr2 := (drew_rel hr1).1
      have hx2 := hx1.trans (drew_rel hr1).2
      obtain ⟨c', g1, g2, g3, g4, g5⟩ := push_vec (c := { c with w := c.w.drew.drew }) (zs := xs.take i ++ ys ++ xs.drop i) hr2 r (t := TT) (ce2 := R2) (e := 53) (cap := G) (by decide) hR2l (by rw [hlenN]; exact hGn) hrow2
      refine ⟨_, c', rfl, ?_, g2, hx2.trans g3, ?_, g4⟩
      · rw [g1]
        have e1 : (w1.setRow g R1).drew.setRow g R2 = (c.w.drew.drew.alloc (.cells R0 53)).setRow c.w.drew.drew.heap.size R2 := by
          rw [hw1, hg]
          exact setRow_setRow (c.w.drew.drew.alloc (.cells R0 53)) c.w.heap.size R1 R2
        rw [e1, alloc_setRow]
      · rw [hlenN] at g5
        rw [hg]
        exact g5

theorem insS_ok : SoundO Tryd.prog 64 insS := by
  intro w0 c args us K hr ha hs
  unfold insS at hs
  split at hs
  · next r i q =>
    split at hs
    · next xs ys hst hsq =>
      cases hrq : Nat.beq r q with
      | true => rw [hrq] at hs; exact hs.elim
      | false =>
        rw [hrq] at hs
        simp only [cond_false] at hs
        obtain ⟨⟨h0, hi, hy, hfit⟩, hK⟩ := hs
        obtain ⟨i, rfl⟩ := Int.eq_ofNat_of_zero_le h0
        have hne : r ≠ q := fun h => by
          subst h
          simp at hrq
        simp only [RelVs] at ha
        obtain ⟨u, us1, e1, hu, u2, us2, e2, rfl, u3, us3, e3, hv, e4⟩ := ha
        have hus : us = #[u, .int .i64 i, u3] := by
          apply Array.ext'
          rw [e1, e2, e3, e4]
        rw [hus]
        refine (ins_sound hr hst hsq hne hu hv (by omega) hy hfit).mono ?_
        rintro en w' ⟨v, c', rfl, g1, g2, g3, g4, g5⟩
        refine ⟨v, _, c', rfl, g1, g2, g3, g4, ?_⟩
        rw [g5]
        simpa using hK
    · exact hs.elim
  · exact hs.elim

end Ins
end Go.Proofs.YtkpplfghhciacaaDoor

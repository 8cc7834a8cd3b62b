/-
  Open: its walk. Conditions: none.
-/
import Derived.RegionTactic
import Derived.ChangeAlike
import Derived.Shelf.Abstract
import Derived.Test.YtmnalcfclcgmkaaCaJ
import Derived.Test.YtmnalcfclcgmkaaCaC
set_option linter.unusedVariables false
set_option linter.unusedSimpArgs false
namespace Go.Proofs.Ytmnalcfclcgmkaa
namespace Ca
open Go.RowKit Go.Shelf Eng

attribute [local go_sem] Oper.semAt_some wide_fn wide_depth wide_in_fn wide_in_depth

/-- Data that lies in w lies in every later world. -/
theorem ro_later {A : Nat → Nat → Prop} {W W' : World} {t : Ty} {x : t.den} {us : List Value} (hA : ∀ b o, A b o → b < W.heap.size) (hB : Below W.heap.size W W') (h : RoV W A t x us) : RoV W' A t x us :=
  RoV.ext (fun _ _ h => h) (fun b o ho => World.cell?_of_block (a := ⟨b, o, none⟩) (hB.block b (hA b o ho))) h

theorem check_calls {A : Nat → Nat → Prop} {W0 W : World} {sw sh : Value} {ws : List Win} {hs ts : List Int} (hA : ∀ b o, A b o → b < W0.heap.size) (hB : Below W0.heap.size W0 W)
    (hw : RoV W0 A (.slice WT) ws [sw]) (hh : RoV W0 A (.slice (.int .i64)) hs [sh]) {b cap : Nat} {e : TypeId} (hb : W.heap[b]? = some (.cells (ts.map (Value.int .i64)).toArray e (0, 0))) (hl : ts.length ≤ cap) (hl2 : ts.length ≤ 12) :
    Calls Try.prog 20 #[.agg #[sw, sh], .slice (some ⟨b, 0, none⟩) ts.length cap] W fun e w' => e = .returned (.agg #[.int .i64 (chk ws hs ts).1, .int .i64 (chk ws hs ts).2]) ∧ Below W.heap.size W w' := by
  have hlt : b < W.heap.size := (Array.getElem?_eq_some_iff.1 hb).1
  have hsub : ∀ b' o, A b' o → A b' o ∨ b' = b := fun _ _ h => .inl h
  have hts : RoV W (fun b' o => A b' o ∨ b' = b) (.slice (.int .i64)) ts [.slice (some ⟨b, 0, none⟩) ts.length cap] := by
    refine .inr ⟨b, 0, none, cap, rfl, fun _ => rfl, hl, fun i y hy => ⟨[.int .i64 y], rfl, rfl, fun j u hu => ⟨?_, .inr rfl⟩⟩⟩
    cases j with
    | zero =>
      have hu' : Value.int .i64 y = u := by simpa using hu
      subst hu'
      have hs1 : (Ty.int IntKind.i64).size = 1 := rfl
      simp only [World.cell?, hb, hs1]
      simp
      refine ⟨y, ?_, rfl⟩
      exact hy
    | succ j => simp at hu
  refine (C.calendar_check_ok W (fun b' o => A b' o ∨ b' = b) [.agg [.ro WT ws, .ro (.int .i64) hs], .ro (.int .i64) ts] #[.agg #[sw, sh], .slice (some ⟨b, 0, none⟩) ts.length cap]
    (fun v _ => v = .agg [.x (.int .i64 (chk ws hs ts).1), .x (.int .i64 (chk ws hs ts).2)]) (fun b' o h => ?_) ?_ ?_).mono ?_
  · rcases h with h | rfl
    · exact Nat.lt_of_lt_of_le (hA b' o h) hB.size
    · exact hlt
  · simp only [RelVs, RelV, cfg0]
    refine ⟨_, _, rfl, ⟨#[sw, sh], rfl, _, _, rfl, ?_, _, _, rfl, ?_, rfl⟩, _, _, rfl, hts, rfl⟩
    · exact RoV.ext hsub (fun _ _ _ => rfl) (ro_later hA hB hw)
    · exact RoV.ext hsub (fun _ _ _ => rfl) (ro_later hA hB hh)
  · have e : C.calendar_check_S [.agg [.ro WT ws, .ro (.int .i64) hs], .ro (.int .i64) ts] (fun v _ => v = .agg [.x (.int .i64 (chk ws hs ts).1), .x (.int .i64 (chk ws hs ts).2)]) =
        C.calendar_check ws hs ts (fun r0 r1 => V.agg [.x (.int .i64 r0), .x (.int .i64 r1)] = .agg [.x (.int .i64 (chk ws hs ts).1), .x (.int .i64 (chk ws hs ts).2)]) := by kernel_rfl
    rw [e]
    exact check_ok ws hs ts hl2 _ rfl
  · rintro e w' ⟨u, v, c', rfl, e2, hr, _, hv, rfl⟩
    simp only [RelV, RelVs] at hv
    obtain ⟨us, rfl, u1, us1, h1, rfl, u2, us2, rfl, rfl, rfl⟩ := hv
    have e3 : us = #[.int .i64 (chk ws hs ts).1, .int .i64 (chk ws hs ts).2] := by apply Array.ext'; rw [h1]
    subst e3
    exact ⟨rfl, below_of hr e2⟩

set_option maxRecDepth 100000 in
set_option maxHeartbeats 4000000 in
theorem stretches_calls (sw sh : Value) (lo hi : Int) (w : World) : Calls Try.prog 21 #[.agg #[sw, sh], .int .i64 lo, .int .i64 hi] w fun e w' =>
    e = .returned (.func (.func 27) #[] #[.pointer (some ⟨w.heap.size + 1, 0, none⟩), .pointer (some ⟨w.heap.size + 2, 0, none⟩), .pointer (some ⟨w.heap.size, 0, none⟩)]) ∧
      w' = ((w.alloc (.cells #[sw, sh] 25)).alloc (.cells #[.int .i64 lo] 3)).alloc (.cells #[.int .i64 hi] 3) := by
  go_enter Try.func21, Try.ntmps21
  go_wp2
  go_ret
  exact ⟨rfl, rfl⟩

theorem two_cells {W : World} {b : Nat} {x y : Value} {t : TypeId} (h : W.heap[b]? = some (.cells #[x, y] t (0, 0))) :
    W.cell? ⟨b, 0, none⟩ = some x ∧ W.cell? ⟨b, 1, none⟩ = some y ∧ W.frozen? ⟨b, 0, none⟩ = false ∧ W.frozen? ⟨b, 1, none⟩ = false := by
  simp [World.cell?, World.frozen?, h]

theorem one_cell {W : World} {b : Nat} {x : Value} {t : TypeId} (h : W.heap[b]? = some (.cells #[x] t (0, 0))) : W.cell? ⟨b, 0, none⟩ = some x ∧ W.frozen? ⟨b, 0, none⟩ = false := by
  simp [World.cell?, World.frozen?, h]

theorem heap_old (w : World) (o : Obj) {k : Nat} {x : Obj} (h : w.heap[k]? = some x) : (w.alloc o).heap[k]? = some x :=
  (Below.heap_alloc w o k (Array.getElem?_eq_some_iff.1 h).1).trans h

theorem heap_below {B : Nat} {w w' : World} (hb : Below B w w') {k : Nat} {x : Obj} (h : w.heap[k]? = some x) (hk : k < B) : w'.heap[k]? = some x := (hb.block k hk).trans h

theorem set_other (W : World) (b j : Nat) (v : Value) {k : Nat} {o : Obj} (h : W.heap[k]? = some o) (hk : k ≠ b) : (W.setCell ⟨b, j, none⟩ v).heap[k]? = some o := (Below.heap_setCell W ⟨b, j, none⟩ v k hk).trans h

theorem set_one {W : World} {b : Nat} {x : Value} {t : TypeId} (h : W.heap[b]? = some (.cells #[x] t (0, 0))) (v : Value) : (W.setCell ⟨b, 0, none⟩ v).heap[b]? = some (.cells #[v] t (0, 0)) :=
  Boxed.set v h

theorem set_two0 {W : World} {b : Nat} {x y : Value} {t : TypeId} (h : W.heap[b]? = some (.cells #[x, y] t (0, 0))) (v : Value) : (W.setCell ⟨b, 0, none⟩ v).heap[b]? = some (.cells #[v, y] t (0, 0)) := by
  obtain ⟨hlt, hk⟩ := Array.getElem?_eq_some_iff.1 h
  show (W.heap.modify b _)[b]? = _
  rw [Array.getElem?_eq_getElem (by rw [Array.size_modify]; exact hlt), Array.getElem_modify_self, hk]
  rfl

theorem set_two1 {W : World} {b : Nat} {x y : Value} {t : TypeId} (h : W.heap[b]? = some (.cells #[x, y] t (0, 0))) (v : Value) : (W.setCell ⟨b, 1, none⟩ v).heap[b]? = some (.cells #[x, v] t (0, 0)) := by
  obtain ⟨hlt, hk⟩ := Array.getElem?_eq_some_iff.1 h
  show (W.heap.modify b _)[b]? = _
  rw [Array.getElem?_eq_getElem (by rw [Array.size_modify]; exact hlt), Array.getElem_modify_self, hk]
  rfl

/-- The two results in their cells. -/
def RC (n : Nat) (t : TypeId) (v : Value) (c i : Int) (W : World) : Prop := W.heap[n]? = some (.cells #[v] t (0, 0)) ∧ W.heap[n + 1]? = some (.cells #[.int .i64 c, .int .i64 i] 27 (0, 0))

theorem RC.store {n : Nat} {t : TypeId} {v : Value} {c i : Int} {W : World} (h : RC n t v c i W) (v' : Value) (c' i' : Int) :
    RC n t v' c' i' (((W.setCell ⟨n, 0, none⟩ v').setCell ⟨n + 1, 0, none⟩ (.int .i64 c')).setCell ⟨n + 1, 1, none⟩ (.int .i64 i')) ∧
      KeepsOthers W (((W.setCell ⟨n, 0, none⟩ v').setCell ⟨n + 1, 0, none⟩ (.int .i64 c')).setCell ⟨n + 1, 1, none⟩ (.int .i64 i')) ∧
      (∀ (B : Nat) (a : World), Below B a W → B ≤ n → Below B a (((W.setCell ⟨n, 0, none⟩ v').setCell ⟨n + 1, 0, none⟩ (.int .i64 c')).setCell ⟨n + 1, 1, none⟩ (.int .i64 i'))) ∧
      (∀ k, k ≠ n → k ≠ n + 1 → (((W.setCell ⟨n, 0, none⟩ v').setCell ⟨n + 1, 0, none⟩ (.int .i64 c')).setCell ⟨n + 1, 1, none⟩ (.int .i64 i')).heap[k]? = W.heap[k]?) := by
  obtain ⟨h1, h2⟩ := h
  refine ⟨⟨?_, ?_⟩, ?_, fun B a hB hn => ?_, fun k k1 k2 => ?_⟩
  · exact set_other _ _ _ _ (set_other _ _ _ _ (set_one h1 v') (by omega)) (by omega)
  · exact set_two1 (set_two0 (set_other _ _ _ _ h2 (by omega)) _) _
  · exact ((KeepsOthers.setCell _ _ _).trans (KeepsOthers.setCell _ _ _)).trans (KeepsOthers.setCell _ _ _)
  · exact ((hB.setCell (p := ⟨n, 0, none⟩) hn _).setCell (p := ⟨n + 1, 0, none⟩) (by show B ≤ n + 1; omega) _).setCell (p := ⟨n + 1, 1, none⟩) (by show B ≤ n + 1; omega) _
  · rw [Below.heap_setCell _ _ _ k (by exact k2), Below.heap_setCell _ _ _ k (by exact k2), Below.heap_setCell _ _ _ k (by exact k1)]

theorem RC.own {β : Type} (B n : Nat) (t : TypeId) (v : Value) (c i : Int) : OwnFrom B (fun (_ : β) W => RC n t v c i W) := by
  rintro s W W' row ⟨h1, h2⟩ hg hr
  exact ⟨(grownBy_keeps_cells hg (fun r e => (hr r e).2) h1 rfl).trans h1, (grownBy_keeps_cells hg (fun r e => (hr r e).2) h2 rfl).trans h2⟩

theorem RC.alloc {n : Nat} {t : TypeId} {v : Value} {c i : Int} {W : World} (h : RC n t v c i W) (o : Obj) : RC n t v c i (W.alloc o) := ⟨heap_old _ _ h.1, heap_old _ _ h.2⟩

theorem RC.cells {n : Nat} {t : TypeId} {v : Value} {c i : Int} {W : World} (h : RC n t v c i W) : (W.cell? ⟨n, 0, none⟩ = some v ∧ W.frozen? ⟨n, 0, none⟩ = false) ∧
    W.cell? ⟨n + 1, 0, none⟩ = some (.int .i64 c) ∧ W.cell? ⟨n + 1, 1, none⟩ = some (.int .i64 i) ∧ W.frozen? ⟨n + 1, 0, none⟩ = false ∧ W.frozen? ⟨n + 1, 1, none⟩ = false := ⟨one_cell h.1, two_cells h.2⟩

theorem RC.put {n : Nat} {t : TypeId} {v : Value} {c i : Int} {W : World} (h : RC n t v c i W) {D : Nat} {o : Obj} (o' : Obj) (hD : W.heap[D]? = some o) (ho : o.isCells = false) : RC n t v c i (W.putObj D o') :=
  RC.own (β := Unit) 0 n t v c i () W _ (some D) h (grownBy_putObj' W D o') (fun r e => by cases e; exact ⟨Nat.zero_le _, o, hD, ho⟩)

theorem below_put {B : Nat} {a W : World} (h : Below B a W) {D : Nat} {o : Obj} (o' : Obj) (hD : W.heap[D]? = some o) (hBD : B ≤ D) : Below B a (W.putObj D o') :=
  h.grown (grownBy_putObj' W D o') (by have := (Array.getElem?_eq_some_iff.1 hD).1; omega) (fun k e => by cases e; exact hBD)

theorem OwnFrom.const {β : Type} {B : Nat} (P : β → Prop) : OwnFrom B (fun s _ => P s) := fun _ _ _ _ h _ _ => h

/-- What lies where the loop over the stretches begins. -/
theorem mem_str {A : Nat → Nat → Prop} {W4 W7 : World} {sw sh : Value} {lo hi : Int} {ws : List Win} {hs : List Int} (hA : ∀ b o, A b o → b < W4.heap.size)
    (hw : RoV W4 A (.slice WT) ws [sw]) (hh : RoV W4 A (.slice (.int .i64)) hs [sh]) (e7 : W7 = ((W4.alloc (.cells #[sw, sh] 25)).alloc (.cells #[.int .i64 lo] 3)).alloc (.cells #[.int .i64 hi] 3)) :
    Mem A (W4.heap.size + 1) (W4.heap.size + 2) W4.heap.size lo hi sw sh ws hs W7 ∧ Below W4.heap.size W4 W7 ∧ W7.heap.size = W4.heap.size + 3 := by
  have hB : Below W4.heap.size W4 W7 := by rw [e7]; exact (((Below.refl _ _).alloc (Nat.le_refl _) _).alloc (by simp) _).alloc (by simp; omega) _
  have s7 : W7.heap.size = W4.heap.size + 3 := by rw [e7]; simp
  have b0 : W7.heap[W4.heap.size]? = some (.cells #[sw, sh] 25 (0, 0)) := by rw [e7]; exact heap_old _ _ (heap_old _ _ (World.alloc_heap_new W4 _))
  have b1 : W7.heap[W4.heap.size + 1]? = some (.cells #[.int .i64 lo] 3 (0, 0)) := by
    rw [e7]; refine heap_old _ _ ?_
    have := World.alloc_heap_new (W4.alloc (Obj.cells #[sw, sh] 25)) (Obj.cells #[.int .i64 lo] 3)
    rwa [World.size_alloc] at this
  have b2 : W7.heap[W4.heap.size + 2]? = some (.cells #[.int .i64 hi] 3 (0, 0)) := by
    rw [e7]
    have := World.alloc_heap_new ((W4.alloc (Obj.cells #[sw, sh] 25)).alloc (Obj.cells #[.int .i64 lo] 3)) (Obj.cells #[.int .i64 hi] 3)
    rwa [World.size_alloc, World.size_alloc] at this
  exact ⟨⟨(one_cell b1).1, (one_cell b2).1, (two_cells b0).1, (two_cells b0).2.1, ro_later hA hB hw, ro_later hA hB hh, fun b o h => by have := hA b o h; omega⟩, hB, s7⟩

theorem range_str {A : Nat → Nat → Prop} {W4 W7 : World} {sw sh : Value} {lo hi : Int} {ws : List Win} {hs : List Int} (hA : ∀ b o, A b o → b < W4.heap.size)
    (hw : RoV W4 A (.slice WT) ws [sw]) (hh : RoV W4 A (.slice (.int .i64)) hs [sh]) (hG : Good ws hs) (h0 : 0 ≤ lo) (h1 : lo ≤ 100000000) (h2 : 0 ≤ hi) (h3 : hi ≤ 100000000)
    (e7 : W7 = ((W4.alloc (.cells #[sw, sh] 25)).alloc (.cells #[.int .i64 lo] 3)).alloc (.cells #[.int .i64 hi] 3))
    {g : Operand} {ps : Array Tmp} {assign body : Code} {Q : Exit → Act → World → Prop} {a : Act}
    (hg : a.eval g = .func (.func 27) #[] #[.pointer (some ⟨W4.heap.size + 1, 0, none⟩), .pointer (some ⟨W4.heap.size + 2, 0, none⟩), .pointer (some ⟨W4.heap.size, 0, none⟩)]) (hps : ps.size = 2)
    (I : List (Int × Int) → World → Prop) (Ix : Code → List (Int × Int) → World → Prop) (hI : OwnFrom W7.heap.size I) (hIx : ∀ c, OwnFrom W7.heap.size (Ix c)) (hi0 : I [] W7) (a₁ : Int × Int → Act)
    (hassign : ∀ (l : Nat) (x : Int × Int) (W : World) (K : Act → World → Prop), K (a₁ x) W →
      assign.wpIn (Fence.wide.inRound l) 0 Try.prog (Exit.then K (fun _ _ _ => False)) { tmps := (ps.zip #[Value.int .i64 x.1, Value.int .i64 x.2]).foldl (fun t (p, v) => t.setIfInBounds p v) a.tmps, defers := [] } W)
    (hbody : ∀ (l : Nat) (pre : List (Int × Int)) (x : Int × Int) (W : World), I pre W → pre.length < (str ws hs lo hi).length → x ∈ str ws hs lo hi → body.wpIn (Fence.wide.inRound l) 0 Try.prog (ownPostK (Kp (Sk A (W4.heap.size + 1) (W4.heap.size + 2) W4.heap.size)) I Ix (pre ++ [x]) W) (a₁ x) W)
    (hdone : ∀ (D : Nat) (W : World), W7.heap.size ≤ D → I (str ws hs lo hi) W → W.heap[D]? = some (.deferred (some [])) → Q .normal { a with defers := { target := .collected D, args := #[] } :: a.defers } W)
    (hstop : ∀ (D : Nat) (c : Code) (pre : List (Int × Int)) (W : World), W7.heap.size ≤ D → pre <+: str ws hs lo hi → Ix c pre W → W.heap[D]? = some (.deferred (some [])) →
      c.wpIn Fence.wide 1 Try.prog Q { a with defers := { target := .collected D, args := #[] } :: a.defers } W) :
    (Code.rangeFunc g ps assign body).wpIn Fence.wide 1 Try.prog Q a W7 := by
  obtain ⟨hM, hB7, s7⟩ := mem_str hA hw hh e7
  have hlt := hM.lt
  refine wpIn_rangeFunc_ownF (α := St ws hs lo hi) rfl (Nat.le_refl 1) (gf := 27) hg trivial (enters_of Try.func27 (by kernel_rfl) rfl)
    (it_stops 0 h0 h1 h2 h3 hG.ok (by have := hG.hl; omega) (by have := hG.wl; omega) hM) Kp.trans (fun W l o o' hl ho _ _ => ?_) (Below.refl _ _) (fun x => ?_)
    (fun pre W => I (pre.map Subtype.val) W) (fun c pre W => Ix c (pre.map Subtype.val) W) (fun s A' B row hs hg hr => hI _ A' B row hs hg hr) (fun c s A' B row hs hg hr => hIx c _ A' B row hs hg hr) hi0 (fun x => a₁ x.1) (fun l x W K hK => hassign l x.1 W K hK)
    (fun l pre x W hI hl => ?_) (fun D xs W hD hS hI hd => hdone D W hD (by rw [← hS]; exact hI) hd) (fun D c pre W hD hS hI hd => hstop D c _ W hD hS hI hd)
  · refine ⟨by simp, fun b hb => World.putObj_heap_other (fun e => ?_)⟩
    subst e
    have := hlt _ hb
    omega
  · rw [hps]; rfl
  · refine wpIn_mono (hbody l _ x.1 W hI (by simpa using hl) x.2) fun e a W' h => ?_
    cases e <;> simp only [ownPostK, List.map_append, List.map_cons, List.map_nil] at h ⊢ <;> exact h

/-- What Open answers. -/
def openR (ws : List Win) (hs : List Int) (t : Int) : Bool × (Int × Int) := bif chk ws hs [t] == (0, 0) then (op ws hs t, (0, 0)) else (false, chk ws hs [t])

set_option maxRecDepth 100000 in
set_option maxHeartbeats 4000000 in
theorem open_calls {A : Nat → Nat → Prop} {W : World} {wa ha : Option Addr} {wn wc hn hc : Nat} {ws : List Win} {hs : List Int} (hA : ∀ b o, A b o → b < W.heap.size)
    (hw : RoV W A (.slice WT) ws [.slice wa wn wc]) (hh : RoV W A (.slice (.int .i64)) hs [.slice ha hn hc]) (t : Int) :
    Calls Try.prog 9 #[.agg #[.slice wa wn wc, .slice ha hn hc], .int .i64 t] W fun e w' =>
      e = .returned (.tuple #[.bool (openR ws hs t).1, .agg #[.int .i64 (openR ws hs t).2.1, .int .i64 (openR ws hs t).2.2]]) ∧ Below W.heap.size W w' := by
  obtain ⟨W1, hW1⟩ : ∃ W1, W1 = ((W.alloc (Obj.cells #[Value.slice wa wn wc, Value.slice ha hn hc] 25)).alloc (Obj.cells #[Value.bool false] 4)).alloc (Obj.cells #[Value.int .i64 0, Value.int .i64 0] 27) := ⟨_, rfl⟩
  have s1 : W1.heap.size = W.heap.size + 3 := by rw [hW1]; simp
  have hB1 : Below W.heap.size W W1 := by rw [hW1]; exact (((Below.refl _ W).alloc (Nat.le_refl _) _).alloc (by simp) _).alloc (by simp; omega) _
  have b0 : W1.heap[W.heap.size]? = some (.cells #[.slice wa wn wc, .slice ha hn hc] 25 (0, 0)) := by rw [hW1]; exact heap_old _ _ (heap_old _ _ (World.alloc_heap_new W _))
  have b1 : W1.heap[W.heap.size + 1]? = some (.cells #[.bool false] 4 (0, 0)) := by
    rw [hW1]; refine heap_old _ _ ?_
    have := World.alloc_heap_new (W.alloc (Obj.cells #[Value.slice wa wn wc, Value.slice ha hn hc] 25)) (Obj.cells #[Value.bool false] 4)
    rwa [World.size_alloc] at this
  have b2 : W1.heap[W.heap.size + 1 + 1]? = some (.cells #[.int .i64 0, .int .i64 0] 27 (0, 0)) := by
    rw [hW1]
    have := World.alloc_heap_new ((W.alloc (Obj.cells #[Value.slice wa wn wc, Value.slice ha hn hc] 25)).alloc (Obj.cells #[Value.bool false] 4)) (Obj.cells #[Value.int .i64 0, Value.int .i64 0] 27)
    rwa [World.size_alloc, World.size_alloc] at this
  have hcall := check_calls (W0 := W) (W := W1.alloc (Obj.cells #[Value.int .i64 t] 3)) (ts := [t]) (cap := 1) (b := W1.heap.size) hA (hB1.alloc (by omega) _) hw hh (World.alloc_heap_new W1 _) (Nat.le_refl 1) (by simp)
  obtain ⟨⟨c, i⟩, hci⟩ : ∃ p, p = chk ws hs [t] := ⟨_, rfl⟩
  simp only [← hci] at hcall
  simp only [s1] at hcall
  have key : ∀ W3, Below (W1.alloc (Obj.cells #[Value.int .i64 t] 3)).heap.size (W1.alloc (Obj.cells #[Value.int .i64 t] 3)) W3 →
      Below W.heap.size W W3 ∧ W.heap.size + 4 ≤ W3.heap.size ∧ W3.heap[W.heap.size]? = some (.cells #[.slice wa wn wc, .slice ha hn hc] 25 (0, 0)) ∧ RC (W.heap.size + 1) 4 (.bool false) 0 0 W3 := fun W3 hB =>
    ⟨(hB1.alloc (by omega) _).trans (hB.mono (by simp; omega)), by have := hB.size; simp at this; omega, heap_below hB (heap_old _ _ b0) (by simp; omega), heap_below hB (heap_old _ _ b1) (by simp; omega), heap_below hB (heap_old _ _ b2) (by simp; omega)⟩
  obtain ⟨v1, v2⟩ := chk_code ws hs [t]
  rw [← hci] at v1 v2
  refine (callsIn_wide (n := 1)).1 (callsIn_of_wp_marks Try.func9 rfl trivial ?_ rfl)
  simp only [Try.ntmps9, List.size_toArray, List.length_cons, List.length_nil, Nat.reduceAdd, Nat.reduceSub, Array.replicate_succ, Array.replicate_zero, List.push_toArray, List.append_toArray, List.nil_append, List.cons_append]
  by_cases hz : c = 0
  · obtain rfl : i = 0 := by
      have := v1 hz
      simp only [Prod.mk.injEq] at this
      exact this.2
    subst hz
    obtain ⟨hG, hT⟩ := v2 rfl
    obtain ⟨t0, t1⟩ := hT t (by simp)
    have hR : openR ws hs t = (op ws hs t, (0, 0)) := by unfold openR; rw [← hci]; rfl
    rw [hR]
    gi_wp2_with (first | (gi_at_call 20; rw [← hW1]; refine CallsIn.mono (callsIn_wide.2 hcall) ?_; rintro e W3 ⟨rfl, hB⟩; obtain ⟨hB3, hs3, p0, p1⟩ := key W3 hB; obtain ⟨c0, c1, -, -⟩ := two_cells p0; obtain ⟨c5, c6, -, -⟩ := two_cells (heap_old W3 (Obj.cells #[Value.int .i64 0, Value.int .i64 0] 27) p0)) | (gi_at_call 21; refine CallsIn.mono (callsIn_wide.2 (stretches_calls _ _ _ _ _)) ?_; rintro e w' ⟨rfl, rfl⟩))
    generalize hW4 : W3.alloc (Obj.cells #[Value.int .i64 0, Value.int .i64 0] 27) = W4
    have s4 : W4.heap.size = W3.heap.size + 1 := by rw [← hW4]; simp
    have q1 : RC (W.heap.size + 1) 4 (.bool false) 0 0 W4 := by rw [← hW4]; exact p1.alloc _
    have hB4 : Below W.heap.size W W4 := by rw [← hW4]; exact hB3.alloc (by omega) _
    have hA4 : ∀ b o, A b o → b < W4.heap.size := fun b o h => by have := hA b o h; omega
    rw [show W3.heap.size + 1 = W4.heap.size from s4.symm]
    generalize hW7 : ((W4.alloc (Obj.cells #[Value.slice wa wn wc, Value.slice ha hn hc] 25)).alloc (Obj.cells #[Value.int .i64 t] 3)).alloc (Obj.cells #[Value.int .i64 (t + 1)] 3) = W7
    have hw4 := ro_later hA hB4 hw
    have hh4 := ro_later hA hB4 hh
    obtain ⟨hM, hB7, s7⟩ := mem_str (hi := t + 1) hA4 hw4 hh4 hW7.symm
    have q7 : RC (W.heap.size + 1) 4 (.bool false) 0 0 W7 := by rw [← hW7]; exact ((q1.alloc _).alloc _).alloc _
    have hB8 : Below W.heap.size W W7 := hB4.trans (hB7.mono (by omega))
    have hcov := str_cov (ws := ws) (hs := hs) (lo := t) (hi := t + 1) hG.ok (by omega) t0
    refine range_str hA4 hw4 hh4 hG t0 (by omega) (by omega) (by omega) hW7.symm (by rfl) (by rfl)
      (fun pre W' => pre = [] ∧ RC (W.heap.size + 1) 4 (.bool false) 0 0 W' ∧ Below W.heap.size W W')
      (fun c pre W' => (c = .ret ∧ pre ≠ []) ∧ RC (W.heap.size + 1) 4 (.bool true) 0 0 W' ∧ Below W.heap.size W W')
      (OwnFrom.and (OwnFrom.const _) (OwnFrom.and (RC.own _ _ _ _ _ _) (ownFrom_below (Nat.le_refl _) (by omega))))
      (fun c => OwnFrom.and (OwnFrom.const _) (OwnFrom.and (RC.own _ _ _ _ _ _) (ownFrom_below (Nat.le_refl _) (by omega))))
      ⟨rfl, q7, hB8⟩
      ?act ?assign ?body ?done ?stop
    case assign =>
      intro l x X K hK
      gi_wp2
      exact hK
    case body =>
      rintro l pre x X ⟨rfl, r1, r2⟩ _ _
      obtain ⟨⟨d0, d1⟩, e0, e1, e2, e3⟩ := r1.cells
      gi_wp2
      obtain ⟨f1, f2, f3, f4⟩ := r1.store (.bool true) 0 0
      exact ⟨f2, ⟨rfl, by simp⟩, f1, f3 _ _ r2 (by omega)⟩
    case done =>
      rintro D X hD ⟨hx, r1, r2⟩ hd
      obtain ⟨⟨d0, d1⟩, e0, e1, e2, e3⟩ := r1.cells
      gi_wp2
      obtain ⟨f1, f2, f3, f4⟩ := r1.store (.bool false) 0 0
      have hd' := (f4 D (by omega) (by omega)).trans hd
      refine ⟨by simp, .inl ⟨_, _, rfl, run_takeDeferred hd', ?_⟩⟩
      obtain ⟨⟨g0, _⟩, g1, g2, _, _⟩ := (f1.put (.deferred none) hd' rfl).cells
      have hop : op ws hs t = false := (Cov.first (by omega) hcov).2 hx t (Int.le_refl t) (by omega)
      rw [hop]
      refine ⟨_, ?_, rfl, below_put (f3 _ _ r2 (by omega)) _ hd' (by omega)⟩
      simp [results, Try.f9, go_sem, g0, g1, g2]
    case stop =>
      rintro D c pre X hD hp ⟨⟨rfl, hne⟩, r1, r2⟩ hd
      gi_wp2
      refine ⟨by simp, .inl ⟨_, _, rfl, run_takeDeferred hd, ?_⟩⟩
      obtain ⟨⟨g0, _⟩, g1, g2, _, _⟩ := (r1.put (.deferred none) hd rfl).cells
      have hop : op ws hs t = true := by
        cases hs2 : str ws hs t (t + 1) with
        | nil => rw [hs2] at hp; exact absurd (List.prefix_nil.1 hp) hne
        | cons x r =>
          obtain ⟨o1, o2, o3, _⟩ := (Cov.first (by omega) hcov).1 x r hs2
          have : x.1 = t := by omega
          rw [this] at o3
          exact o3
      rw [hop]
      refine ⟨_, ?_, rfl, below_put r2 _ hd (by omega)⟩
      simp [results, Try.f9, go_sem, g0, g1, g2]
  · have hR : openR ws hs t = (false, (c, i)) := by
      unfold openR
      rw [← hci]
      have : ((c, i) == ((0, 0) : Int × Int)) = false := by
        simp only [beq_eq_false_iff_ne, ne_eq, Prod.mk.injEq, not_and]
        exact fun h => absurd h hz
      rw [this]
      rfl
    rw [hR]
    gi_wp2_with (gi_at_call 20; rw [← hW1]; refine CallsIn.mono (callsIn_wide.2 hcall) ?_; rintro e W3 ⟨rfl, hB⟩; obtain ⟨hB3, hs3, p0, p1⟩ := key W3 hB; obtain ⟨c0, c1, -, -⟩ := two_cells p0)
    generalize hW4 : W3.alloc (Obj.cells #[Value.int .i64 c, Value.int .i64 i] 27) = W4
    have q3 : W4.heap[W3.heap.size]? = some (.cells #[.int .i64 c, .int .i64 i] 27 (0, 0)) := by rw [← hW4]; exact World.alloc_heap_new W3 _
    have q1 : RC (W.heap.size + 1) 4 (.bool false) 0 0 W4 := by rw [← hW4]; exact p1.alloc _
    have hB4 : Below W.heap.size W W4 := by rw [← hW4]; exact hB3.alloc (by omega) _
    clear c0 c1
    obtain ⟨c0, c1, c2, c3⟩ := two_cells q3
    obtain ⟨⟨d0, d1⟩, e0, e1, e2, e3⟩ := q1.cells
    refine wpIn_wide.2 ?_
    go_region
    dsimp only [Exit.then]
    go_at_K
    gi_wp2
    obtain ⟨f1, f2, f3, f4⟩ := q1.store (.bool false) c i
    obtain ⟨⟨g0, _⟩, g1, g2, _, _⟩ := f1.cells
    refine ⟨_, ?_, rfl, (f3 _ _ hB4 (by omega)).drew⟩
    simp [results, Try.f9, go_sem, g0, g1, g2]

end Ca
end Go.Proofs.Ytmnalcfclcgmkaa

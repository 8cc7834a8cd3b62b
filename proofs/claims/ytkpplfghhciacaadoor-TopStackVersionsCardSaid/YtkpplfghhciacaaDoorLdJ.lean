/-
  slices.Insert and slices.Delete at a struct's rows, as functions that are handed the rows. Conditions: none.
-/
import Derived.Test.YtkpplfghhciacaaDoorLdI
namespace Go.Proofs.YtkpplfghhciacaaDoor
namespace Ins
open Go.RowKit Go.Lib Go.Proofs.YtkpplfghhciacaaDoor.Eng

section rows
variable {α : Type} {R : α → List Value → Prop} {s : Nat} {xs : List α} {l : List Value}

theorem rows_take (k : Nat) (h : RowsR R s xs l) : RowsR R s (xs.take k) l := fun i y hy => by
  rw [List.getElem?_take] at hy
  split at hy
  · exact h i y hy
  · cases hy

theorem rows_drop (k : Nat) (h : RowsR R s xs l) : RowsR R s (xs.drop k) (l.drop (k * s)) := fun i y hy => by
  rw [List.getElem?_drop] at hy
  have h2 := h _ _ hy
  rw [List.drop_drop, ← Nat.add_mul]
  exact h2

theorem rows_pre {k : Nat} (hk : k ≤ xs.length) (hl : xs.length * s ≤ l.length) (h : RowsR R s xs l) : RowsR R s (xs.take k) (l.take (k * s)) ∧ (l.take (k * s)).length = (xs.take k).length * s := by
  have e : (xs.take k).length = k := by rw [List.length_take]; omega
  have hm : k * s ≤ xs.length * s := Nat.mul_le_mul_right _ hk
  have h2 := RowsR.take (rows_take k h) (by rw [e]; omega)
  rw [e] at h2
  exact ⟨h2, by rw [List.length_take, e]; omega⟩

theorem rows_mid {k : Nat} (hl : xs.length * s ≤ l.length) (h : RowsR R s xs l) : RowsR R s (xs.drop k) ((l.drop (k * s)).take ((xs.length - k) * s)) ∧ ((l.drop (k * s)).take ((xs.length - k) * s)).length = (xs.drop k).length * s := by
  have e : (xs.drop k).length = xs.length - k := List.length_drop
  have hd : (xs.length - k) * s ≤ (l.drop (k * s)).length := by
    rw [List.length_drop, Nat.sub_mul]; omega
  have h2 := RowsR.take (rows_drop k h) (by rw [e]; exact hd)
  rw [e] at h2
  exact ⟨h2, by rw [List.length_take, e]; omega⟩

end rows

/-- A row that is written anew in its own block. -/
theorem adopt_vec {w0 : Base} {c : Cfg} (hr : Rel w0 c) {r b : Nat} {t : Ty} {xs zs : List t.den} {ce ce2 : Array Value} {e : TypeId} {cap : Nat}
    (hst : c.st[r]? = some (.vec t 0 xs)) (hbl : c.bl r = some b) (hheap : c.w.heap[b]? = some (.cells ce e (0, 0))) (hpos : 0 < t.size) (hA : ∀ o, ¬ c.A b o)
    (hsz : ce2.size = cap * t.size) (hzl : zs.length ≤ cap) (hrows : RowsR (RoV c.w c.A t) t.size zs ce2.toList) :
    ∃ c', c'.w = c.w.setRow b ce2 ∧ Rel w0 c' ∧ Ext c c' ∧ c'.st = c.st.set r .dead ++ [.vec t 0 zs] ∧ RelV c' (.vec c.st.length) (.slice (some ⟨b, 0, none⟩) zs.length cap) := by
  obtain ⟨hl1, hx1⟩ := kill_rel hr r
  have hfree : ∀ q, live (c.st.set r .dead) q → c.bl q ≠ some b := by
    intro q hq hb
    have hq' : q ≠ r := by
      rintro rfl
      unfold live at hq
      rw [List.getElem?_set] at hq
      simp at hq
      split at hq <;> simp_all
    have hq2 : live c.st q := by
      unfold live at hq ⊢
      rw [List.getElem?_set_ne (fun e => hq' e.symm)] at hq
      exact hq
    exact hq' (hr.inj q r b hq2 (live_of hst (by simp)) hb hbl)
  obtain ⟨h1, h2⟩ := adopt_rel (ce := ce2) (ob := .vec t 0 zs) hl1 (hr.fresh r b (live_of hst (by simp)) hbl) hfree hheap (fun o ho => absurd ho (hA o))
    ⟨hpos, Nat.zero_le _, .inr ⟨b, ce2, e, cap, by simp [adoptC], setRow_heap c.w b ce _ e _ hheap, hsz, hzl, fun i y hy => by
      refine RoV.ext (fun _ _ h => h) (fun b' o ho => ?_) (hrows i y hy)
      show (c.w.setRow b _).cell? _ = _
      have hbb : b' ≠ b := fun hh => hA o (hh ▸ ho)
      exact World.cell?_of_block (w := c.w) (setRow_other c.w b b' _ hbb), fun o _ => hA o⟩⟩
    (fun q m row hq hm => by
      have hq0 : c.st[q]? = some (Ob.pool m) := by
        have hq' : (c.st.set r .dead)[q]? = some (Ob.pool m) := hq
        rw [List.getElem?_set] at hq'
        split at hq'
        · split at hq' <;> cases hq'
        · exact hq'
      exact ((hr.pl.2 q m hq0).2 b row hm).2.1 r (live_of hst (by simp)) hbl)
  refine ⟨_, rfl, h1, hx1.trans h2, rfl, ?_⟩
  simp only [RelV, adoptC]
  have hlen : (killC c r).st.length = c.st.length := by simp [killC]
  rw [List.getElem?_append_right (by simp [killC])]
  simp only [killC, List.length_set, Nat.sub_self, List.getElem?_cons_zero]
  exact .inr ⟨b, cap, by simp, by simp, ce2, e, _, setRow_heap c.w b ce _ e _ hheap, hsz⟩

/-- A row in a new block, another dying. -/
theorem push_vec {w0 : Base} {c : Cfg} (hr : Rel w0 c) (r : Nat) {t : Ty} {zs : List t.den} {ce2 : Array Value} {e : TypeId} {cap : Nat} (hpos : 0 < t.size)
    (hsz : ce2.size = cap * t.size) (hzl : zs.length ≤ cap) (hrows : RowsR (RoV c.w c.A t) t.size zs ce2.toList) :
    ∃ c', c'.w = c.w.alloc (.cells ce2 e) ∧ Rel w0 c' ∧ Ext c c' ∧ c'.st = c.st.set r .dead ++ [.vec t 0 zs] ∧ RelV c' (.vec c.st.length) (.slice (some ⟨c.w.heap.size, 0, none⟩) zs.length cap) := by
  obtain ⟨hl1, hx1⟩ := kill_rel hr r
  obtain ⟨h1, h2⟩ := push_rel (ce := ce2) (e := e) (ob := .vec t 0 zs) hl1
    ⟨hpos, Nat.zero_le _, .inr ⟨c.w.heap.size, ce2, e, cap, by simp [pushC, killC], heap_new c.w _, hsz, hzl, fun i y hy => by
      refine RoV.ext (fun _ _ h => h) (fun b' o ho => ?_) (hrows i y hy)
      have := hr.bound b' o ho
      show (c.w.alloc _).cell? _ = _
      apply World.cell?_alloc_lt; exact this, fun o ho hn => by have h9 := hr.bound _ _ hn; omega⟩⟩
  refine ⟨_, rfl, h1, hx1.trans h2, rfl, ?_⟩
  simp only [RelV, pushC]
  rw [List.getElem?_append_right (by simp [killC])]
  simp only [killC, List.length_set, Nat.sub_self, List.getElem?_cons_zero]
  exact .inr ⟨c.w.heap.size, cap, by simp, by simp, ce2, e, _, heap_new c.w _, hsz⟩

theorem alloc_setRow (w : World) (x y : Array Value) (e : TypeId) : (w.alloc (.cells x e)).setRow w.heap.size y = w.alloc (.cells y e) := by
  unfold World.setRow World.alloc
  congr 1
  apply Array.ext_getElem?
  intro i
  rw [Array.getElem?_modify]
  by_cases hi : w.heap.size = i
  · subst hi
    simp
  · rw [if_neg hi]
    simp only [Array.getElem?_push]
    rw [if_neg (fun h => hi h.symm), if_neg (fun h => hi h.symm)]

abbrev TT : Ty := .pair .str (.slice .str)

theorem hok : elemOk Tryd.prog 53 TT = true := by kernel_rfl

theorem zone : (((Tryd.prog.info? 53).bind fun i => i.zero).map fun z => z.cells.toList.all fun v => v.oneCell') = some true := by kernel_rfl

theorem sz53 (w : World) : (sizeOf 53).run Tryd.prog w = .ok 2 w := by
  obtain ⟨i, z, hi, hsz, _⟩ := elemOk_sound hok
  have h : i.size = 2 := hsz
  rw [run_sizeOf' hi, h]

theorem run_copy {w w' : World} {n m dc k : Nat} {ty : TypeId} {src : Value} {a : Addr} {l : List Value} (hlen : (Builtin.lenOf src).run Tryd.prog w = .ok m w) (hk : Nat.min m n = k)
    (hf : (Builtin.firstCells 2 k src).run Tryd.prog w = .ok l.toArray w) (hs : (storeCells a l).run Tryd.prog w = .ok () w') :
    (Builtin.copy_ #[39, 39] ty #[.slice (some a) n dc, src]).run Tryd.prog w = .ok (goInt k) w' := by
  simp [Builtin.copy_, run_underlying und, hlen, sz53, hk, hf, hs]

def insS : SemO := fun args st K => match args with
  | [.vec r, .x (.int .i64 i), .vec q] => match st[r]?, st[q]? with
    | some (.vec (.pair .str (.slice .str)) 0 xs), some (.vec (.pair .str (.slice .str)) 0 ys) =>
      bif Nat.beq r q then False else (0 ≤ i ∧ i ≤ (xs.length : Int) ∧ ys.length ≠ 0 ∧ fits (xs.length + ys.length)) ∧ K (.vec st.length) (st.set r .dead ++ [.vec TT 0 (xs.take i.toNat ++ ys ++ xs.drop i.toNat)])
    | _, _ => False
  | _ => False

def delS : SemO := fun args st K => match args with
  | [.vec r, .x (.int .i64 i), .x (.int .i64 j)] => match st[r]? with
    | some (.vec (.pair .str (.slice .str)) 0 xs) =>
      (0 ≤ i ∧ i < j ∧ j ≤ (xs.length : Int) ∧ fits xs.length) ∧ K (.vec st.length) (st.set r .dead ++ [.vec TT 0 (xs.take i.toNat ++ xs.drop j.toNat)])
    | _ => False
  | _ => False

/-- The state of a row that has a block. -/
theorem cap_eq {w : World} {b : Nat} {ce : Array Value} {e : TypeId} {cap cap' s : Nat} {fz : Nat × Nat} (h : w.heap[b]? = some (.cells ce e fz)) (hsz : ce.size = cap * s) (hs : 0 < s) (hr : Eng.Rows w b (cap' * s)) : cap' = cap := by
  obtain ⟨ce', e', fz', g1, g2⟩ := hr
  rw [h] at g1
  cases g1
  exact Nat.eq_of_mul_eq_mul_right hs (by omega)

set_option maxHeartbeats 1600000 in
theorem del_sound {w0 : Base} {c : Cfg} (hr : Rel w0 c) {r : Nat} {xs : List TT.den} {u : Value} {i j : Nat} (hst : c.st[r]? = some (.vec TT 0 xs)) (hv : RelV c (.vec r) u) (hij : i < j) (hj : j ≤ xs.length) (hfit : fits xs.length) :
    Calls Tryd.prog 54 #[u, .int .i64 i, .int .i64 j] c.w fun e w' => ∃ v c', e = .returned v ∧ c'.w = w' ∧ Rel w0 c' ∧ Ext c c' ∧ RelV c' (.vec c.st.length) v ∧ c'.st = c.st.set r .dead ++ [.vec TT 0 (xs.take i ++ xs.drop j)] := by
  simp only [RelV, hst] at hv
  obtain ⟨hpos, _, ⟨_, h2⟩ | ⟨b, ce, e, cap, h1, h2, h3, h4, h5, h6⟩⟩ := hr.obj r _ hst
  · subst h2
    simp at hj
    omega
  rcases hv with ⟨hb, _⟩ | ⟨b', cap', hb, rfl, hrows⟩
  · rw [h1] at hb; cases hb
  rw [h1] at hb; cases hb
  obtain rfl := cap_eq h2 h3 hpos hrows
  have hS : TT.size = 2 := rfl
  replace h3 : ce.size = cap' * 2 := h3
  replace h5 : RowsR (RoV c.w c.A TT) 2 xs ce.toList := h5
  have hce : ce.toList.length = cap' * 2 := by simpa using h3
  have hxl : xs.length * 2 ≤ ce.toList.length := by rw [hce]; exact Nat.mul_le_mul_right _ h4
  have hA : ∀ o, ¬ c.A b o := fun o => h6 o (by rw [Nat.zero_mul]; exact Nat.zero_le _)
  have hfit' := hfit
  unfold fits at hfit'
  -- the pieces
  have hR : RowsR (RoV c.w c.A TT) 2 xs ce.toList := h5
  obtain ⟨p1, p2⟩ := rows_pre (k := i) (by omega) hxl hR
  obtain ⟨q1, q2⟩ := rows_mid (k := j) hxl hR
  obtain ⟨X, hX⟩ : ∃ X, X = (ce.toList.drop (j * 2)).take ((xs.length - j) * 2) := ⟨_, rfl⟩
  rw [← hX] at q1 q2
  have hXl : X.length = (xs.length - j) * 2 := by rw [q2, List.length_drop]
  have hX1 : ∀ v ∈ X, v.oneCell' = true := RowsR.one q1 q2 (by decide)
  obtain ⟨W1, hW1⟩ : ∃ W1, W1 = c.w.drew.setRow b (ce.toList.take (i * 2) ++ X ++ ce.toList.drop (i * 2 + X.length)).toArray := ⟨_, rfl⟩
  have hheapd : c.w.drew.heap[b]? = some (.cells ce e (0, 0)) := h2
  have hap : ∀ ty sb sc, (j < cap' → sb = some (⟨b, j * 2, none⟩ : Addr)) → (Builtin.append_ #[39, 39] ty #[.slice (some ⟨b, 0, none⟩) i cap', .slice sb (xs.length - j) sc]).run Tryd.prog c.w.drew = .ok (.slice (some ⟨b, 0, none⟩) (i + (xs.length - j)) cap') W1 := fun ty sb sc hsb => by
    have hfc : ∀ w', (∀ b o, w'.cell? ⟨b, o, none⟩ = c.w.drew.cell? ⟨b, o, none⟩) → (Builtin.firstCells TT.size (xs.length - j) (.slice sb (xs.length - j) sc)).run Tryd.prog w' = .ok X.toArray w' := fun w' hw => by
      by_cases hlt : j < cap'
      · obtain rfl := hsb hlt
        refine firstCells_cells w' b (j * 2) _ _ _ _ _ (by rw [hXl]; rfl) fun k u hk => ?_
        rw [hw, cell_of_row _ _ _ _ _ _ hheapd]
        rw [hX, List.getElem?_take] at hk
        split at hk
        · rw [List.getElem?_drop] at hk
          simpa using hk
        · cases hk
      · have e0 : xs.length - j = 0 := by omega
        have eX : X = [] := List.length_eq_zero_iff.1 (by rw [hXl, e0])
        rw [e0, eX]
        cases sb <;> simp [Builtin.firstCells, loadCells, loadCellsFrom]
    have hfo : ∀ w', (∀ b o, w'.cell? ⟨b, o, none⟩ = c.w.drew.cell? ⟨b, o, none⟩) → (Builtin.firstCells TT.size i (.slice (some ⟨b, 0, none⟩) i cap')).run Tryd.prog w' = .ok (ce.toList.take (i * 2)).toArray w' := fun w' hw => by
      refine firstCells_cells w' b 0 _ _ _ _ _ (by rw [List.length_take, hS]; omega) fun k u hk => ?_
      rw [hw, Nat.zero_add, cell_of_row _ _ _ _ _ _ hheapd]
      rw [List.getElem?_take] at hk
      split at hk
      · simpa using hk
      · cases hk
    rcases run_append (P := Tryd.prog) (w := c.w.drew) (sT := 39) (xT := 39) (ts := #[39, 39]) (ty := ty) (us := #[.slice (some ⟨b, 0, none⟩) i cap', .slice sb (xs.length - j) sc]) rfl rfl rfl rfl und (by kernel_rfl) hok rfl (by unfold fits; omega) hfc hfo with ⟨_, h⟩ | ⟨_, _, _, _, _, h⟩
    · rw [h]
      have hadd : (⟨b, 0, none⟩ : Addr).add (i * TT.size) = ⟨b, i * 2, none⟩ := by rw [add_addr, Nat.zero_add, hS]
      have hst' := run_storeCells_at (P := Tryd.prog) b (i * 2) e X 0 ce c.w.drew hheapd (by rw [hXl]; simp at hce; omega) hX1
      simp only [Nat.add_zero] at hst'
      simp only [hadd, hst', Result.andThen_ok, hW1]
    · omega
  have hl1 : ((ce.toList.take (i * 2) ++ X ++ ce.toList.drop (i * 2 + X.length)).toArray).size = cap' * 2 := by
    simp [hXl, List.length_take]
    simp at hce
    omega
  have hheap1 : W1.heap[b]? = some (.cells (ce.toList.take (i * 2) ++ X ++ ce.toList.drop (i * 2 + X.length)).toArray e (0, 0)) := by rw [hW1]; exact setRow_heap _ _ _ _ _ _ hheapd
  obtain ⟨i0, z, hi0, hsz0, _, _, _, hz0, hzs⟩ := elemOk_sound hok
  obtain ⟨Z, hZ⟩ : ∃ Z, Z = (Builtin.zeroCells z.cells (xs.length - (i + (xs.length - j)))).toList := ⟨_, rfl⟩
  have hZl : Z.length = (j - i) * 2 := by
    have hzs' : z.cells.size = 2 := hzs
    rw [hZ]
    simp [Builtin.zeroCells, hzs']
    omega
  have hZ1 : ∀ v ∈ Z, v.oneCell' = true := by
    intro v hv
    have h := zone
    rw [hi0] at h
    simp only [Option.bind_some, hz0, Option.map_some, Option.some.injEq, List.all_eq_true] at h
    have hzs' : z.cells.size = 2 := hzs
    have hfl : (Builtin.zeroCells z.cells (xs.length - (i + (xs.length - j)))).toList = (List.replicate (xs.length - (i + (xs.length - j))) z.cells.toList).flatten := range_map_rep (by omega) _
    rw [hZ, hfl, List.mem_flatten] at hv
    obtain ⟨l, hl, hvl⟩ := hv
    rw [List.eq_of_mem_replicate hl] at hvl
    exact h v hvl
  obtain ⟨ce1, hce1⟩ : ∃ ce1, ce1 = (ce.toList.take (i * 2) ++ X ++ ce.toList.drop (i * 2 + X.length)).toArray := ⟨_, rfl⟩
  rw [← hce1] at hW1 hl1 hheap1
  obtain ⟨ce2, hce2⟩ : ∃ ce2, ce2 = (ce1.toList.take ((i + (xs.length - j)) * 2) ++ Z ++ ce1.toList.drop ((i + (xs.length - j)) * 2 + Z.length)).toArray := ⟨_, rfl⟩
  have hWZ := run_storeCells_at (P := Tryd.prog) b ((i + (xs.length - j)) * 2) e Z 0 _ W1 hheap1 (by rw [hl1, hZl]; omega) hZ1
  simp only [Nat.add_zero, ← hce2] at hWZ
  have hcl : ∀ ty sc, (Builtin.clear_ #[39] ty #[.slice (some ⟨b, (i + (xs.length - j)) * 2, none⟩) (xs.length - (i + (xs.length - j))) sc]).run Tryd.prog W1 = .ok (.tuple #[]) (W1.setRow b ce2) := fun ty sc => by
    obtain ⟨m, hm⟩ : ∃ m, xs.length - (i + (xs.length - j)) = m + 1 := ⟨j - i - 1, by omega⟩
    rw [hm] at hZ ⊢
    simp [Builtin.clear_, run_underlying und, zeroValue, typeInfo, hi0, hz0, ← hZ, hWZ]
  refine (del_some b xs.length cap' i j c.w W1 _ _ hij hj h4 (by omega) hap hcl).mono ?_
  rintro en w' ⟨rfl, rfl⟩
  have hr1 := (drew_rel hr).1
  have hx1 := (drew_rel hr).2
  have hl2 : ce2.size = cap' * 2 := by
    have hl1' : ce1.toList.length = cap' * 2 := by simpa using hl1
    rw [hce2]
    simp only [List.size_toArray, List.length_append, List.length_take, List.length_drop, hZl]
    omega
  have hrow2 : RowsR (RoV c.w.drew c.A TT) 2 (xs.take i ++ xs.drop j) ce2.toList := by
    have h := RowsR.append (l3 := Z ++ ce1.toList.drop ((i + (xs.length - j)) * 2 + Z.length)) p1 p2 q1 q2
    have e1 : ce1.toList.take ((i + (xs.length - j)) * 2) = ce.toList.take (i * 2) ++ X := by
      have hl : (ce.toList.take (i * 2) ++ X).length = (i + (xs.length - j)) * 2 := by
        rw [List.length_append, List.length_take, hXl]; omega
      rw [hce1, ← hl]
      simp only [List.take_left]
    rw [hce2]
    simp only [e1, List.append_assoc] at h ⊢
    exact h
  obtain ⟨c', g1, g2, g3, g4, g5⟩ := adopt_vec (c := { c with w := c.w.drew }) (zs := xs.take i ++ xs.drop j) hr1 (r := r) (b := b) (t := TT) (xs := xs) (ce := ce) (ce2 := ce2) (e := e) (cap := cap') hst h1 h2 hpos hA hl2 (by simp; omega) hrow2
  refine ⟨_, c', rfl, ?_, g2, hx1.trans g3, ?_, g4⟩
  · rw [g1, hW1, setRow_setRow]
  · have hlen : (xs.take i ++ xs.drop j).length = i + (xs.length - j) := by simp; omega
    rw [hlen] at g5
    exact g5

theorem delS_ok : SoundO Tryd.prog 54 delS := by
  intro w0 c args us K hr ha hs
  unfold delS at hs
  split at hs
  · next r i j =>
    split at hs
    · next xs hst =>
      obtain ⟨⟨h0, hij, hj, hfit⟩, hK⟩ := hs
      obtain ⟨i, rfl⟩ := Int.eq_ofNat_of_zero_le h0
      obtain ⟨j, rfl⟩ := Int.eq_ofNat_of_zero_le (show 0 ≤ j by omega)
      simp only [RelVs] at ha
      obtain ⟨u, us1, e1, hu, u2, us2, e2, rfl, u3, us3, e3, rfl, e4⟩ := ha
      have hus : us = #[u, .int .i64 i, .int .i64 j] := by
        apply Array.ext'
        rw [e1, e2, e3, e4]
      rw [hus]
      refine (del_sound hr hst hu (by omega) (by omega) hfit).mono ?_
      rintro en w' ⟨v, c', rfl, g1, g2, g3, g4, g5⟩
      refine ⟨v, _, c', rfl, g1, g2, g3, g4, ?_⟩
      rw [g5]
      simpa using hK
    · exact hs.elim
  · exact hs.elim

end Ins
end Go.Proofs.YtkpplfghhciacaaDoor

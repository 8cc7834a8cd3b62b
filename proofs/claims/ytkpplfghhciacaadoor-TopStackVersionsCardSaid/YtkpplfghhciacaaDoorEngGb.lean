/-
  What is done to the pool of integer rows: a store, an append, zeroes, a row taken in. Conditions: none.
-/
import Derived.Test.YtkpplfghhciacaaDoorEngG
set_option linter.unusedVariables false
set_option linter.unusedSimpArgs false
namespace Go.Proofs.YtkpplfghhciacaaDoor
namespace Eng
open Go.RowKit

/-- Another beginning of a row. -/
def pput : Pool → Nat → (List Int → List Int) → Pool
  | [], _, _ => []
  | (b, r) :: m, x, f => if b = x then (b, (f r.1, r.2)) :: m else (b, r) :: pput m x f

/-- These numbers behind a place. -/
def pwr (m : Pool) (a : Option Addr) (i : Nat) (ys : List Int) : Pool := match a with
  | some a => pput m a.block fun row => row.take (a.off + i) ++ ys ++ row.drop (a.off + i + ys.length)
  | none => m

theorem pput_keys (x : Nat) (f : List Int → List Int) : ∀ (m : Pool), (pput m x f).map (·.1) = m.map (·.1)
  | [] => rfl
  | (b, r) :: m => by
    simp only [pput]
    split
    · rfl
    · simp only [List.map_cons, pput_keys x f m]

theorem pput_mem {x : Nat} {f : List Int → List Int} : ∀ {m : Pool}, (m.map (·.1)).Nodup → ∀ {b : Nat} {r : List Int × Nat}, (b, r) ∈ pput m x f →
    (b = x ∧ ∃ r0, (x, r0) ∈ m ∧ r = (f r0.1, r0.2)) ∨ (b ≠ x ∧ (b, r) ∈ m)
  | [], _, b, r, h => by simp [pput] at h
  | (b', r') :: m, hn, b, r, h => by
    simp only [List.map_cons, List.nodup_cons] at hn
    simp only [pput] at h
    split at h
    · next e =>
      subst e
      rcases List.mem_cons.1 h with g | g
      · cases g
        exact .inl ⟨rfl, r', by simp, rfl⟩
      · refine .inr ⟨fun e => ?_, List.mem_cons_of_mem _ g⟩
        exact hn.1 (List.mem_map.2 ⟨(b, r), g, e⟩)
    · next e =>
      rcases List.mem_cons.1 h with h | h
      · cases h
        exact .inr ⟨e, by simp⟩
      · rcases pput_mem hn.2 h with ⟨g1, r0, g2, g3⟩ | ⟨g1, g2⟩
        · exact .inl ⟨g1, r0, List.mem_cons_of_mem _ g2, g3⟩
        · exact .inr ⟨g1, List.mem_cons_of_mem _ g2⟩

theorem pfind_none : ∀ {m : Pool} {b : Nat}, (∀ r, (b, r) ∉ m) → pfind m b = none
  | [], _, _ => rfl
  | (b', r') :: m, b, h => by
    simp only [pfind]
    rw [if_neg (by rintro rfl; exact h r' (by simp))]
    exact pfind_none fun r hr => h r (List.mem_cons_of_mem _ hr)

theorem nodup_eq : ∀ {m : Pool}, (m.map (·.1)).Nodup → ∀ {b : Nat} {r r' : List Int × Nat}, (b, r) ∈ m → (b, r') ∈ m → r = r'
  | (b0, r0) :: m, hn, b, r, r', h, h' => by
    simp only [List.map_cons, List.nodup_cons] at hn
    rcases List.mem_cons.1 h with h | h <;> rcases List.mem_cons.1 h' with h' | h'
    · cases h; cases h'; rfl
    · cases h; exact absurd (List.mem_map.2 ⟨_, h', rfl⟩) hn.1
    · cases h'; exact absurd (List.mem_map.2 ⟨_, h, rfl⟩) hn.1
    · exact nodup_eq hn.2 h h'

/-- A row of the pool with another content. -/
theorem pset_rel {w0 : Base} {c : Cfg} (hr : Rel w0 c) {p : Nat} {m : Pool} (hst : c.st[p]? = some (.pool m)) {b : Nat} {row : List Int × Nat} (hb : (b, row) ∈ m) {ce ce' : Array Value} {e : TypeId}
    (hheap : c.w.heap[b]? = some (.cells ce e (0, 0))) (f : List Int → List Int) (hsz : ce'.size = ce.size) (hle : (f row.1).length ≤ row.2) (hce' : ce'.toList.take (f row.1).length = (f row.1).map (Value.int .i64)) :
    Rel w0 { c with w := c.w.setRow b ce', st := c.st.set p (.pool (pput m b f)) } ∧ Ext c { c with w := c.w.setRow b ce', st := c.st.set p (.pool (pput m b f)) } := by
  obtain ⟨hn, hp⟩ := hr.pl.2 p m hst
  obtain ⟨hmay, hown, hA, ce0, e0, hh0, hs0, _, _⟩ := hp b row hb
  rw [hheap] at hh0
  cases hh0
  have hl := live_of hst (by simp)
  have hpl : p < c.st.length := live_lt hl
  have hget : ∀ (r' : Nat) ob', (c.st.set p (Ob.pool (pput m b f)))[r']? = some ob' → (r' ≠ p ∧ c.st[r']? = some ob') ∨ (r' = p ∧ ob' = .pool (pput m b f)) := fun r' ob' h => by
    rw [List.getElem?_set] at h
    split at h
    · next hrr =>
      subst hrr
      simp only [hpl, if_true, Option.some.injEq] at h
      exact .inr ⟨rfl, h.symm⟩
    · next hrr => exact .inl ⟨fun e => hrr e.symm, h⟩
  have hother : ∀ r' b', live c.st r' → c.bl r' = some b' → b' ≠ b := fun r' b' h1 h2 h3 => hown r' h1 (h3 ▸ h2)
  have hx : Ext c { c with w := c.w.setRow b ce', st := c.st.set p (.pool (pput m b f)) } := {
    size := by simp
    sub := fun _ _ h => h
    cells := fun b' o h => World.cell?_of_block (w := c.w) (setRow_other c.w b b' ce' (fun e => hA o (e ▸ h)))
    len := by simp
    keep := fun r' ob' hr' h => by
      rcases hget r' ob' h with ⟨hne, h1⟩ | ⟨rfl, rfl⟩
      · cases ob' with
        | dead => trivial
        | cells cs => exact ⟨⟨cs, h1⟩, rfl⟩
        | pool m => exact ⟨m, h1⟩
        | vec t f xs =>
          refine ⟨f, xs, h1, rfl, rfl, fun b' n hbb hrows => ?_⟩
          obtain ⟨ce1, e', fz, h2, h3⟩ := hrows
          exact ⟨ce1, e', fz, by simp only; rw [setRow_other _ _ _ _ (hother r' b' (live_of h1 (by simp)) hbb)]; exact h2, h3⟩
      · exact ⟨m, hst⟩ }
  have hlive : ∀ r', live (c.st.set p (Ob.pool (pput m b f))) r' → live c.st r' := fun r' h => by
    by_cases hrr : r' = p
    · rw [hrr]; exact hl
    · unfold live at h ⊢
      rw [List.getElem?_set_ne (fun e => hrr e.symm)] at h
      exact h
  refine ⟨{
    below := Kept.setRow hr.below hmay _
    inj := fun r1 r2 b' h h' hb1 hb2 => hr.inj r1 r2 b' (hlive _ h) (hlive _ h') hb1 hb2
    fresh := fun r1 b' h hb1 => hr.fresh r1 b' (hlive _ h) hb1
    bound := fun b' o h => by simp only [setRow_size]; exact hr.bound b' o h
    newA := hr.newA
    obj := fun r' ob' h => by
      rcases hget r' ob' h with ⟨hne, h1⟩ | ⟨rfl, rfl⟩
      · cases ob' with
        | dead => trivial
        | _ =>
          refine OkOb.keep hx rfl (fun b' hbb => ?_) (fun _ _ _ h => h) (hr.obj r' _ h1)
          exact setRow_other _ _ _ _ (hother r' b' (live_of h1 (by simp)) hbb)
      · have : c.bl r' = none := hr.obj r' _ hst
        exact this
    pl := ⟨fun r r' m1 m2 h1 h2 => by
        have q : ∀ r m1, (c.st.set p (Ob.pool (pput m b f)))[r]? = some (Ob.pool m1) → r = p := fun r m1 h => by
          rcases hget r _ h with ⟨_, g⟩ | ⟨g, _⟩
          · exact hr.pl.1 r p _ _ g hst
          · exact g
        rw [q r m1 h1, q r' m2 h2], fun r m1 h1 => by
        rcases hget r _ h1 with ⟨g0, g⟩ | ⟨g0, g⟩
        · exact absurd (hr.pl.1 r p _ _ g hst) g0
        · cases g
          refine ⟨by rw [pput_keys]; exact hn, fun b2 r2 h2 => ?_⟩
          rcases pput_mem hn h2 with ⟨rfl, r0, g1, rfl⟩ | ⟨g1, g2⟩
          · have er := nodup_eq hn g1 hb
            subst er
            exact ⟨hmay, fun r0 k1 k2 => hown r0 (hlive r0 k1) k2, hA, ce', e, setRow_heap c.w b2 ce ce' e _ hheap, hsz.trans hs0, hle, hce'⟩
          · obtain ⟨k1, k2, k3, ce2, e2, k4, k5⟩ := hp b2 r2 g2
            exact ⟨k1, fun r0 l1 l2 => k2 r0 (hlive r0 l1) l2, k3, ce2, e2, by simp only; rw [setRow_other _ _ _ _ g1]; exact k4, k5⟩⟩ }, hx⟩

/-- A new row of the pool. -/
theorem pnew_rel {w0 : Base} {c : Cfg} (hr : Rel w0 c) {p : Nat} {m : Pool} (hst : c.st[p]? = some (.pool m)) (ce : Array Value) (e : TypeId) (row : List Int) (hle : row.length ≤ ce.size) (hce : ce.toList.take row.length = row.map (Value.int .i64)) :
    Rel w0 { c with w := c.w.alloc (.cells ce e), st := c.st.set p (.pool ((c.w.heap.size, (row, ce.size)) :: m)) } ∧ Ext c { c with w := c.w.alloc (.cells ce e), st := c.st.set p (.pool ((c.w.heap.size, (row, ce.size)) :: m)) } ∧ pfind m c.w.heap.size = none := by
  obtain ⟨hn, hp⟩ := hr.pl.2 p m hst
  have hl := live_of hst (by simp)
  have hpl : p < c.st.length := live_lt hl
  have hlt : w0.w.heap.size ≤ c.w.heap.size := hr.below.size
  have hkey : ∀ r, (c.w.heap.size, r) ∉ m := fun r h => by
    obtain ⟨_, _, _, ce1, e1, h1, _⟩ := hp _ _ h
    have := (Array.getElem?_eq_some_iff.1 h1).1
    omega
  have hget : ∀ (r' : Nat) ob', (c.st.set p (Ob.pool ((c.w.heap.size, (row, ce.size)) :: m)))[r']? = some ob' → (r' ≠ p ∧ c.st[r']? = some ob') ∨ (r' = p ∧ ob' = .pool ((c.w.heap.size, (row, ce.size)) :: m)) := fun r' ob' h => by
    rw [List.getElem?_set] at h
    split at h
    · next hrr =>
      subst hrr
      simp only [hpl, if_true, Option.some.injEq] at h
      exact .inr ⟨rfl, h.symm⟩
    · next hrr => exact .inl ⟨fun e => hrr e.symm, h⟩
  have hx : Ext c { c with w := c.w.alloc (.cells ce e), st := c.st.set p (.pool ((c.w.heap.size, (row, ce.size)) :: m)) } := {
    size := by simp
    sub := fun _ _ h => h
    cells := fun b' o h => by have := hr.bound b' o h; apply World.cell?_alloc_lt; exact this
    len := by simp
    keep := fun r' ob' hr' h => by
      rcases hget r' ob' h with ⟨hne, h1⟩ | ⟨rfl, rfl⟩
      · cases ob' with
        | dead => trivial
        | cells cs => exact ⟨⟨cs, h1⟩, rfl⟩
        | pool m => exact ⟨m, h1⟩
        | vec t f xs =>
          refine ⟨f, xs, h1, rfl, rfl, fun b' n hbb hrows => ?_⟩
          obtain ⟨ce1, e', fz, h2, h3⟩ := hrows
          exact ⟨ce1, e', fz, by simp only; rw [Below.heap_alloc _ _ _ (bl_lt hr (live_of h1 (by simp)) hbb)]; exact h2, h3⟩
      · exact ⟨m, hst⟩ }
  have hlive : ∀ r', live (c.st.set p (Ob.pool ((c.w.heap.size, (row, ce.size)) :: m))) r' → live c.st r' := fun r' h => by
    by_cases hrr : r' = p
    · rw [hrr]; exact hl
    · unfold live at h ⊢
      rw [List.getElem?_set_ne (fun e => hrr e.symm)] at h
      exact h
  refine ⟨{
    below := hr.below.alloc hlt _
    inj := fun r1 r2 b' h h' hb1 hb2 => hr.inj r1 r2 b' (hlive _ h) (hlive _ h') hb1 hb2
    fresh := fun r1 b' h hb1 => hr.fresh r1 b' (hlive _ h) hb1
    bound := fun b' o h => by have := hr.bound b' o h; simp only [World.size_alloc]; omega
    newA := hr.newA
    obj := fun r' ob' h => by
      rcases hget r' ob' h with ⟨hne, h1⟩ | ⟨rfl, rfl⟩
      · cases ob' with
        | dead => trivial
        | _ =>
          refine OkOb.keep hx rfl (fun b' hbb => ?_) (fun _ _ _ h => h) (hr.obj r' _ h1)
          exact Below.heap_alloc _ _ _ (bl_lt hr (live_of h1 (by simp)) hbb)
      · have : c.bl r' = none := hr.obj r' _ hst
        exact this
    pl := ⟨fun r r' m1 m2 h1 h2 => by
        have q : ∀ r m1, (c.st.set p (Ob.pool ((c.w.heap.size, (row, ce.size)) :: m)))[r]? = some (Ob.pool m1) → r = p := fun r m1 h => by
          rcases hget r _ h with ⟨_, g⟩ | ⟨g, _⟩
          · exact hr.pl.1 r p _ _ g hst
          · exact g
        rw [q r m1 h1, q r' m2 h2], fun r m1 h1 => by
        rcases hget r _ h1 with ⟨g0, g⟩ | ⟨g0, g⟩
        · exact absurd (hr.pl.1 r p _ _ g hst) g0
        · cases g
          refine ⟨?_, fun b2 r2 h2 => ?_⟩
          · simp only [List.map_cons, List.nodup_cons]
            refine ⟨fun hm => ?_, hn⟩
            obtain ⟨⟨b', r'⟩, h1, h2⟩ := List.mem_map.1 hm
            simp only at h2
            subst h2
            exact hkey _ h1
          · rcases List.mem_cons.1 h2 with h2 | h2
            · cases h2
              exact ⟨.inl hlt, fun r0 k1 k2 => by have := bl_lt hr (hlive r0 k1) k2; omega, fun o k => by have := hr.bound _ _ k; omega, ce, e, heap_new c.w _, rfl, hle, hce⟩
            · obtain ⟨k1, k2, k3, ce2, e2, k4, k5⟩ := hp b2 r2 h2
              exact ⟨k1, fun r0 l1 l2 => k2 r0 (hlive r0 l1) l2, k3, ce2, e2, by simp only; rw [Below.heap_alloc _ _ _ (Array.getElem?_eq_some_iff.1 k4).1]; exact k4, k5⟩⟩ }, hx, pfind_none hkey⟩

theorem pput_same {x : Nat} {f : List Int → List Int} (hf : ∀ l, f l = l) : ∀ (m : Pool), pput m x f = m
  | [] => rfl
  | (b, r) :: m => by
    simp only [pput]
    split
    · rw [hf]
    · rw [pput_same hf m]

theorem pwr_nil (m : Pool) (a : Option Addr) (i : Nat) : pwr m a i [] = m := by
  cases a with
  | none => rfl
  | some a => exact pput_same (fun l => by simp) m

theorem set_self {st : List Ob} {p : Nat} {ob : Ob} (h : st[p]? = some ob) : st.set p ob = st := by
  apply List.ext_getElem?
  intro k
  rw [List.getElem?_set]
  split
  · next e =>
    subst e
    rw [if_pos (List.getElem?_eq_some_iff.1 h).1, h]
  · rfl

theorem upd_row {C : List Value} {row ys : List Int} {k : Nat} (hk : k ≤ row.length) (hC : C.take row.length = row.map (Value.int .i64)) (hl : row.length ≤ C.length) :
    (C.take k ++ ys.map (Value.int .i64) ++ C.drop (k + ys.length)).take (row.take k ++ ys ++ row.drop (k + ys.length)).length = (row.take k ++ ys ++ row.drop (k + ys.length)).map (Value.int .i64) := by
  have e1 : C.take k = (row.take k).map (Value.int .i64) := by
    rw [List.map_take, ← hC, List.take_take, Nat.min_eq_left hk]
  have e2 : C.drop (k + ys.length) = (row.drop (k + ys.length)).map (Value.int .i64) ++ (C.drop row.length).drop (k + ys.length - row.length) := by
    conv => lhs; rw [← List.take_append_drop row.length C, hC]
    rw [List.drop_append, List.length_map, List.map_drop]
  rw [e1, e2, ← List.append_assoc, ← List.map_append, ← List.map_append]
  exact List.take_left' (by rw [List.length_map])

theorem rows_int {w : World} {A : Nat → Nat → Prop} {ys : List Int} {l : List Value} (h : RowsR (RoV w A (.int .i64)) 1 ys l) (hl : l.length = ys.length) : l = ys.map (Value.int .i64) := by
  apply List.ext_getElem?
  intro i
  rcases Nat.lt_or_ge i ys.length with g | g
  · have := h i _ (List.getElem?_eq_getElem g)
    simp only [RoV, Nat.mul_one] at this
    have h2 := congrArg (fun l => l[0]?) this
    simp only [List.getElem?_take, List.getElem?_drop, Nat.add_zero] at h2
    rw [if_pos (by omega)] at h2
    rw [h2, List.getElem?_map, List.getElem?_eq_getElem g]
    rfl
  · rw [List.getElem?_eq_none (by omega), List.getElem?_eq_none (by simpa using g)]

theorem ints_one (ys : List Int) : ∀ v, v ∈ ys.map (Value.int .i64) → v.oneCell' = true := by
  intro v hv
  obtain ⟨y, _, rfl⟩ := List.mem_map.1 hv
  rfl

/-- Numbers are written behind a place of a row. -/
theorem pwr_rel {P : Program} {w0 : Base} {c : Cfg} (hr : Rel w0 c) {p : Nat} {m : Pool} (hm : poolAt 0 c.st = some (p, m)) {b o : Nat} {row : List Int × Nat} (hb : pfind m b = some row) (i : Nat) (ys : List Int) (h1 : o + i ≤ row.1.length) (h2 : o + i + ys.length ≤ row.2) :
    ∃ c', (storeCells ⟨b, o + i, none⟩ (ys.map (Value.int .i64))).run P c.w = .ok () c'.w ∧ c'.st = c.st.set p (.pool (pwr m (some ⟨b, o, none⟩) i ys)) ∧ Rel w0 c' ∧ Ext c c' := by
  obtain ⟨ce, e, g1, g2, g3, g4⟩ := pool_row hr hm hb
  have hrun := run_storeCells_at (P := P) b (o + i) e (ys.map (Value.int .i64)) 0 ce c.w g1 (by rw [List.length_map]; omega) (ints_one ys)
  simp only [Nat.add_zero, List.length_map] at hrun
  have hcl : ce.toList.length = row.2 := by simpa using g2
  obtain ⟨k1, k2⟩ := pset_rel hr (poolAt_st hm) (pfind_mem hb) (ce' := (ce.toList.take (o + i) ++ ys.map (Value.int .i64) ++ ce.toList.drop (o + i + ys.length)).toArray) g1 (fun r => r.take (o + i) ++ ys ++ r.drop (o + i + ys.length))
    (by simp only [List.size_toArray, List.length_append, List.length_take, List.length_map, List.length_drop]; omega)
    (by simp only [List.length_append, List.length_take, List.length_drop]; omega)
    (by simpa using upd_row h1 g4 (by omega))
  exact ⟨_, hrun, rfl, k1, k2⟩

theorem pappend_sound {P : Program} {w0 : Base} {c : Cfg} (hr : Rel w0 c) {p : Nat} {m : Pool} (hm : poolAt 0 c.st = some (p, m)) {h : Hd} {xv : V} {xu : Value} {ys : List Int} {sT xT e : TypeId} {ts : Array TypeId} {ty : TypeId}
    (hxv : RelV c xv xu) (hsrc : arows c.st (.int .i64) xv = some ys) (ht0 : ts[0]? = some sT) (ht1 : ts[1]? = some xT) (hs : P.underlying sT = some (.slice e)) (hx : sliceArg P xT = true) (hok : elemOk P e (.int .i64) = true)
    (hk : h.ok m) (hfit : fits (h.n + ys.length)) :
    ∃ u c', (Builtin.append_ ts ty #[h.val, xu]).run P c.w = .ok u c'.w ∧ Rel w0 c' ∧ Ext c c' ∧
      ((h.n + ys.length ≤ h.c ∧ c'.st = c.st.set p (.pool (pwr m h.a h.n ys)) ∧ u = (⟨h.a, h.n + ys.length, h.c⟩ : Hd).val) ∨
        (¬ h.n + ys.length ≤ h.c ∧ ∃ b cap, pfind m b = none ∧ h.n + ys.length ≤ cap ∧ c'.st = c.st.set p (.pool ((b, (h.get m ++ ys, cap)) :: m)) ∧ u = (⟨some ⟨b, 0, none⟩, h.n + ys.length, cap⟩ : Hd).val)) := by
  obtain ⟨_, hlen, l, hll, hrun, hrows⟩ := arows_sound (P := P) hr hsrc hxv
  simp only [Ty.size, Nat.mul_one] at hll
  have hl := rows_int hrows hll
  have hst := poolAt_st hm
  have hgl := Hd.get_len hk
  have hl0 : ∀ w' : World, (∀ b o, w'.cell? ⟨b, o, none⟩ = c.w.cell? ⟨b, o, none⟩) → (Builtin.firstCells (Ty.size (.int .i64)) h.n (.slice h.a h.n h.c)).run P w' = .ok ((h.get m).map (Value.int .i64)).toArray w' := by
    intro w' hw'
    obtain ⟨hnc, h2 | ⟨b, o, row, h2, h3, h4, _⟩⟩ := hk
    · have hn : h.n = 0 := by omega
      have hg : h.get m = [] := List.length_eq_zero_iff.1 (by rw [hgl]; exact hn)
      rw [hn, hg]
      cases h.a with
      | none => simp [Builtin.firstCells]
      | some a =>
        simp only [Builtin.firstCells, loadCells, Nat.zero_mul]
        rfl
    · rw [h2]
      refine firstCells_cells w' b o _ _ _ _ _ (by rw [List.length_map, hgl]; simp [Ty.size]) fun j u hj => ?_
      rw [hw']
      rw [List.getElem?_map] at hj
      cases hy : (h.get m)[j]? with
      | none => rw [hy] at hj; cases hj
      | some y =>
        rw [hy] at hj
        simp only [Option.map_some, Option.some.injEq] at hj
        subst hj
        unfold Hd.get at hy
        rw [h2] at hy
        simp only [prow, h3, List.getElem?_take, List.getElem?_drop] at hy
        split at hy
        · next hjn =>
          have hlt : o + j < row.1.length := by omega
          rw [pool_cell hr hm h3 hlt]
          simp only [List.getElem?_eq_getElem hlt, Option.some.injEq] at hy
          simp [List.getD, List.getElem?_eq_getElem hlt, hy]
        · cases hy
  rcases run_append (P := P) (w := c.w) (ts := ts) (ty := ty) (us := #[h.val, xu]) (t := .int .i64) ht0 ht1 rfl rfl hs hx hok hlen hfit hrun hl0 with ⟨hle, hin⟩ | ⟨cap, rest, hcap, hrl, hgrow, hle⟩
  · have hle : h.n + @List.length Int ys ≤ h.c := hle
    obtain ⟨hnc, h2 | ⟨b, o, row, h2, h3, h4, h5⟩⟩ := hk
    · have hy0 : ys = [] := List.length_eq_zero_iff.1 (by omega)
      refine ⟨_, c, ?_, hr, Ext.refl c, .inl ⟨hle, by rw [hy0, pwr_nil, set_self hst], rfl⟩⟩
      rw [hin, hl, hy0]
      cases h.a with
      | none => rfl
      | some a =>
        simp only [List.map_nil, storeCells, Hd.val, List.length_nil, Nat.add_zero]
        rfl
    · obtain ⟨c', k1, k2, k3, k4⟩ := pwr_rel (P := P) hr hm h3 (o := o) h.n ys h4 (by omega)
      refine ⟨_, c', ?_, k3, k4, .inl ⟨hle, by rw [k2, h2], rfl⟩⟩
      rw [hin, h2, hl]
      simp only [Ty.size, Nat.mul_one, add_addr]
      rw [k1]
      simp only [Result.andThen_ok, Hd.val]
      rfl
  · obtain ⟨hd1, hd2⟩ := drew_rel hr
    have hrl : rest.length = cap - (h.n + @List.length Int ys) := by
      simp only [Ty.size, Nat.mul_one] at hrl
      exact hrl
    have hcap : h.n + @List.length Int ys ≤ cap := hcap
    obtain ⟨k1, k2, k3⟩ := pnew_rel (p := p) (m := m) hd1 hst ((h.get m).map (Value.int .i64) ++ l ++ rest).toArray e (h.get m ++ ys)
      (by simp only [List.length_append, List.size_toArray, List.length_map, hgl, hl, hrl]; omega)
      (by
        simp only
        rw [hl, ← List.map_append]
        exact List.take_left' (by rw [List.length_map]))
    have hsz : ((h.get m).map (Value.int .i64) ++ l ++ rest).toArray.size = cap := by
      simp only [List.length_append, List.size_toArray, List.length_map, hgl, hl, hrl]; omega
    rw [hsz] at k1 k2
    have hle : ¬ h.n + @List.length Int ys ≤ h.c := hle
    exact ⟨_, _, hgrow, k1, hd2.trans k2, .inr ⟨hle, c.w.heap.size, cap, k3, hcap, rfl, rfl⟩⟩

/-- A number is stored. -/
def pstoreT (P : Program) (st : List Ob) (t : TypeId) (a x : V) : Option (Option Prop × List Ob) := match a, x with
  | .pt q i, .x (.int .i64 v) => match P.info? t, poolAt 0 st with
    | some inf, some (p, m) => if inf.size = 1 then some (some (pok m q i), st.set p (.pool (pwr m q i [v]))) else none
    | _, _ => none
  | _, _ => none

/-- An append to a slice of the pool: in place, or in a new block. -/
def pappQ (st : List Ob) (p : Nat) (m : Pool) (h : Hd) (ys : List Int) (k : V → List Ob → Prop) : Prop :=
  h.ok m ∧ fits (h.n + ys.length) ∧ (bif Nat.ble (h.n + ys.length) h.c then k (.hd ⟨h.a, h.n + ys.length, h.c⟩) (st.set p (.pool (pwr m h.a h.n ys)))
    else ∀ b cap : Nat, pfind m b = none → h.n + ys.length ≤ cap → k (.hd ⟨some ⟨b, 0, none⟩, h.n + ys.length, cap⟩) (st.set p (.pool ((b, (h.get m ++ ys, cap)) :: m))))

def pappK (P : Program) (st : List Ob) (ts : List TypeId) (sv xv : V) (k : V → List Ob → Prop) : Prop := match sv, ts with
  | .hd h, sT :: xT :: _ => match P.underlying sT, poolAt 0 st, arows st (.int .i64) xv with
    | some (.slice e), some (p, m), some ys => bif sliceArg P xT && elemOk P e (.int .i64) then pappQ st p m h ys k else False
    | _, _, _ => False
  | _, _ => False

/-- Zeroes. -/
def pclear (P : Program) (st : List Ob) (t : TypeId) (x : V) : Option (Option Prop × List Ob) := match x with
  | .hd h => match P.underlying t, poolAt 0 st with
    | some (.slice e), some (p, m) => match zeroV P e with
      | some [.x (.int .i64 0)] => some (some (h.ok m), st.set p (.pool (pwr m h.a 0 (List.replicate h.n 0))))
      | _ => none
    | _, _ => none
  | _ => none

def hasH : Ty → Bool
  | .hnd => true
  | .pair a b => hasH a || hasH b
  | _ => false

/-- Integer slices in cells are told by their headers. -/
def hndT : Ty → Ty
  | .slice (.int .i64) => .hnd
  | .pair a b => .pair (hndT a) (hndT b)
  | t => t

/-- The type of a new row's elements: where there is a pool, integer slices in them are told by their headers. -/
def tyP (P : Program) (st : List Ob) (e : TypeId) : Option Ty := match poolAt 0 st, tyOf P 20 e with
  | some _, some t => some (hndT t)
  | _, t => t

/-- A row of the run's own that is to be stored as a header. -/
def adoptQ (st : List Ob) (a x : V) : Option (Nat × Nat × Pool × List Int) := match a, x with
  | .el r' _ _, .vec r => match st[r']? with
    | some (.vec τ _ _) => if hasH τ = true then match st[r]?, poolAt 0 st with
        | some (.vec (.int .i64) 0 xs), some (p, m) => some (r, p, m, xs)
        | _, _ => none
      else none
    | _ => none
  | _, _ => none

theorem pstore_sound {P : Program} {w0 : Base} {c : Cfg} (hr : Rel w0 c) {t : TypeId} {av xv : V} {au xu : Value} {q : Option Prop} {st' : List Ob} (h : pstoreT P c.st t av xv = some (q, st')) (hq : vc q) (ha : RelV c av au) (hx : RelV c xv xu) :
    ∃ c', (Instr.storeAt t au xu).run P c.w = .ok () c'.w ∧ c'.st = st' ∧ Rel w0 c' ∧ Ext c c' := by
  unfold pstoreT at h
  split at h
  · next a i v =>
    split at h
    · next inf p m hinf hm =>
      split at h
      · next hs =>
        cases h
        obtain ⟨b, o, row, rfl, h2, h3⟩ := hq
        simp only [RelV] at ha hx
        obtain ⟨b', o', e, rfl⟩ := ha
        cases e
        subst hx
        obtain ⟨_, _, _, g2, g3, _⟩ := pool_row hr hm h2
        obtain ⟨c', k1, k2, k3, k4⟩ := pwr_rel (P := P) hr hm h2 (o := o) i [v] (by omega) (by simp; omega)
        refine ⟨c', ?_, k2, k3, k4⟩
        have hc : (Value.int .i64 v).cells = #[.int .i64 v] := rfl
        simp only [Instr.storeAt, Instr.sureAddr, storeVar, Sem.run_bind, Sem.run_pure, Result.andThen_ok, run_sizeOf' hinf, hs, hc, List.size_toArray, List.length_cons, List.length_nil, ne_eq, not_true_eq_false, if_false]
        exact k1
      · cases h
    · cases h
  · cases h

theorem papp_sound {P : Program} {w0 : Base} {c : Cfg} (hr : Rel w0 c) {ts : Array TypeId} {ty : TypeId} {sv xv : V} {su xu : Value} {k : V → List Ob → Prop} (h : pappK P c.st ts.toList sv xv k) (hs : RelV c sv su) (hx : RelV c xv xu) :
    ∃ u v c', (Builtin.append_ ts ty #[su, xu]).run P c.w = .ok u c'.w ∧ Rel w0 c' ∧ Ext c c' ∧ RelV c' v u ∧ k v c'.st := by
  unfold pappK at h
  split at h
  · next hd sT xT rest hts =>
    split at h
    · next e p m ys hu hm hsrc =>
      cases hok : sliceArg P xT && elemOk P e (.int .i64) with
      | false => rw [hok] at h; exact h.elim
      | true =>
        rw [hok] at h
        simp only [Bool.and_eq_true] at hok
        obtain ⟨hk, hfit, h⟩ := h
        simp only [RelV] at hs
        subst hs
        have h0 : ts[0]? = some sT := by rw [← Array.getElem?_toList, hts]; rfl
        have h1 : ts[1]? = some xT := by rw [← Array.getElem?_toList, hts]; rfl
        obtain ⟨u, c', g1, g2, g3, g4⟩ := pappend_sound (P := P) (ty := ty) hr hm hx hsrc h0 h1 hu hok.1 hok.2 hk hfit
        rcases g4 with ⟨hle, e1, e2⟩ | ⟨hle, b, cap, e0, e3, e1, e2⟩
        · have hb : Nat.ble (hd.n + List.length (α := Int) ys) hd.c = true := by rw [Nat.ble_eq]; exact hle
          rw [hb] at h
          exact ⟨u, .hd ⟨hd.a, hd.n + List.length (α := Int) ys, hd.c⟩, c', g1, g2, g3, by simp only [RelV]; exact e2, by rw [e1]; exact h⟩
        · have hb : Nat.ble (hd.n + List.length (α := Int) ys) hd.c = false := by
            cases hbb : Nat.ble (hd.n + List.length (α := Int) ys) hd.c with
            | false => rfl
            | true => exact absurd (Nat.le_of_ble_eq_true hbb) hle
          rw [hb] at h
          exact ⟨u, .hd ⟨some ⟨b, 0, none⟩, hd.n + List.length (α := Int) ys, cap⟩, c', g1, g2, g3, by simp only [RelV]; exact e2, by rw [e1]; exact h b cap e0 e3⟩
    · exact h.elim
  · exact h.elim

/-- A row of the run's own, taken into the pool. -/
theorem adopt_sound {w0 : Base} {c : Cfg} (hr : Rel w0 c) {a x : V} {r p : Nat} {m : Pool} {xs : List Int} (h : adoptQ c.st a x = some (r, p, m, xs)) {u : Value} (hx : RelV c x u) :
    (xs = [] ∧ u = .slice none 0 0 ∧ Rel w0 { c with st := c.st.set r .dead } ∧ Ext c { c with st := c.st.set r .dead }) ∨
      ∃ b cap, pfind m b = none ∧ xs.length ≤ cap ∧ u = (⟨some ⟨b, 0, none⟩, xs.length, cap⟩ : Hd).val ∧
        Rel w0 { c with st := (c.st.set r .dead).set p (.pool ((b, (xs, cap)) :: m)) } ∧ Ext c { c with st := (c.st.set r .dead).set p (.pool ((b, (xs, cap)) :: m)) } := by
  unfold adoptQ at h
  split at h
  · next r0 i0 j0 r1 =>
    split at h
    · next τ f0 xs0 hst0 =>
      split at h
      · next hh =>
        split at h
        · next ys p' m' hst hm =>
          simp only [Option.some.injEq, Prod.mk.injEq] at h
          obtain ⟨rfl, rfl, rfl, rfl⟩ := h
          have hkill := kill_rel hr r1
          simp only [RelV, hst] at hx
          have hpst := poolAt_st hm
          have hl := live_of hst (by simp)
          obtain ⟨hn, hp⟩ := hr.pl.2 p' m hpst
          have hne : p' ≠ r1 := by rintro rfl; rw [hst] at hpst; cases hpst
          obtain ⟨_, hf, ⟨h1, h2⟩ | ⟨b, ce, e, cap, h1, h2, h3, h4, h5, h6⟩⟩ := hr.obj r1 _ hst
          · rcases hx with ⟨_, rfl⟩ | ⟨b, cap, hb, _⟩
            · exact .inl ⟨h2, rfl, hkill.1, hkill.2⟩
            · rw [h1] at hb; cases hb
          · rcases hx with ⟨hb, _⟩ | ⟨b', cap', hb, rfl, hrows'⟩
            · rw [h1] at hb; cases hb
            rw [h1] at hb
            cases hb
            have hcap : cap' = cap := by
              obtain ⟨ce', e'', fz, g1, g2⟩ := hrows'
              rw [h2] at g1; cases g1
              simp only [Ty.size, Nat.mul_one] at g2 h3
              omega
            subst hcap
            have hkey : ∀ r, (b, r) ∉ m := fun r hmem => (hp b r hmem).2.1 r1 hl h1
            have hnA : ∀ o, ¬ c.A b o := fun o => h6 o (by omega)
            have hpl1 : p' < (c.st.set r1 .dead).length := by rw [List.length_set]; exact live_lt (live_of hpst (by simp))
            have hk1 : (killC c r1).st[p']? = some (.pool m) := by simp only [killC]; rw [List.getElem?_set_ne (fun e => hne e.symm)]; exact hpst
            have hget : ∀ (q : Nat) ob', ((c.st.set r1 .dead).set p' (Ob.pool ((b, (xs, cap')) :: m)))[q]? = some ob' → (q ≠ p' ∧ (c.st.set r1 .dead)[q]? = some ob') ∨ (q = p' ∧ ob' = .pool ((b, (xs, cap')) :: m)) := fun q ob' h => by
              rw [List.getElem?_set] at h
              split at h
              · next hrr =>
                subst hrr
                simp only [hpl1, if_true, Option.some.injEq] at h
                exact .inr ⟨rfl, h.symm⟩
              · next hrr => exact .inl ⟨fun e => hrr e.symm, h⟩
            have hx2 : Ext (killC c r1) { c with st := (c.st.set r1 .dead).set p' (.pool ((b, (xs, cap')) :: m)) } := {
              size := Nat.le_refl _
              sub := fun _ _ h => h
              cells := fun _ _ _ => rfl
              len := by simp [killC]
              keep := fun q ob' hq h => by
                rcases hget q ob' h with ⟨hne, g⟩ | ⟨rfl, rfl⟩
                · cases ob' with
                  | dead => trivial
                  | cells cs => exact ⟨⟨cs, g⟩, rfl⟩
                  | pool m => exact ⟨m, g⟩
                  | vec t f xs => exact ⟨f, xs, g, rfl, rfl, fun _ _ _ h => h⟩
                · exact ⟨m, hk1⟩ }
            have hlive : ∀ q, live ((c.st.set r1 .dead).set p' (Ob.pool ((b, (xs, cap')) :: m))) q → live (killC c r1).st q := fun q hq => by
              by_cases e : q = p'
              · rw [e]; exact live_of hk1 (by simp)
              · unfold live at hq ⊢
                rw [List.getElem?_set_ne (fun e' => e e'.symm)] at hq
                exact hq
            have hnr : ∀ q, live (killC c r1).st q → c.bl q ≠ some b := fun q hq hb => by
              have hqr : q ≠ r1 := by
                rintro rfl
                unfold live at hq
                simp only [killC] at hq
                rw [List.getElem?_set] at hq
                simp at hq
                split at hq <;> simp_all
              have hq2 : live c.st q := by
                unfold live at hq ⊢
                simp only [killC] at hq
                rw [List.getElem?_set_ne (fun e => hqr e.symm)] at hq
                exact hq
              exact hqr (hr.inj q r1 b hq2 hl hb h1)
            refine .inr ⟨b, cap', pfind_none hkey, h4, rfl, ?_, hkill.2.trans hx2⟩
            have hkr := hkill.1
            exact {
              below := hkr.below
              inj := fun q1 q2 b' k1 k2 k3 k4 => hkr.inj q1 q2 b' (hlive q1 k1) (hlive q2 k2) k3 k4
              fresh := fun q b' k1 k2 => hkr.fresh q b' (hlive q k1) k2
              bound := hkr.bound
              newA := hkr.newA
              obj := fun q ob' k => by
                rcases hget q ob' k with ⟨g0, g⟩ | ⟨rfl, rfl⟩
                · exact OkOb.keep hx2 rfl (fun _ _ => rfl) (fun _ _ _ h => h) (hkr.obj q ob' g)
                · have : c.bl q = none := hr.obj q _ hpst
                  exact this
              pl := ⟨fun q1 q2 m1 m2 k1 k2 => by
                  have qq : ∀ q m1, ((c.st.set r1 .dead).set p' (Ob.pool ((b, (xs, cap')) :: m)))[q]? = some (Ob.pool m1) → q = p' := fun q m1 h => by
                    rcases hget q _ h with ⟨_, g⟩ | ⟨g, _⟩
                    · exact hkr.pl.1 q p' _ _ g hk1
                    · exact g
                  rw [qq q1 m1 k1, qq q2 m2 k2], fun q m1 k1 => by
                  rcases hget q _ k1 with ⟨g0, g⟩ | ⟨g0, g⟩
                  · exact absurd (hkr.pl.1 q p' _ _ g hk1) g0
                  · cases g
                    refine ⟨?_, fun b2 r2 k2 => ?_⟩
                    · simp only [List.map_cons, List.nodup_cons]
                      refine ⟨fun hm => ?_, hn⟩
                      obtain ⟨⟨b', r'⟩, j1, j2⟩ := List.mem_map.1 hm
                      simp only at j2
                      subst j2
                      exact hkey _ j1
                    · rcases List.mem_cons.1 k2 with k2 | k2
                      · cases k2
                        refine ⟨hr.fresh r1 b hl h1, fun r0 j1 j2 => hnr r0 (hlive r0 j1) j2, hnA, ce, e, h2, by simpa [Ty.size] using h3, h4, ?_⟩
                        apply List.ext_getElem?
                        intro i
                        simp only [List.getElem?_take, List.getElem?_map]
                        split
                        · next hi =>
                          have := h5 i _ (List.getElem?_eq_getElem hi)
                          simp only [RoV, Ty.size, Nat.mul_one] at this
                          have g2 := congrArg (fun l => l[0]?) this
                          simp only [List.getElem?_take, List.getElem?_drop, Nat.add_zero, Nat.lt_one_iff, if_true] at g2
                          rw [g2, List.getElem?_eq_getElem hi]
                          rfl
                        · next hi => rw [List.getElem?_eq_none (by omega)]; rfl
                      · obtain ⟨j1, j2, j3, ce2, e2, j4, j5⟩ := hp b2 r2 k2
                        refine ⟨j1, fun r0 l1 l2 => ?_, j3, ce2, e2, j4, j5⟩
                        have hq := hlive r0 l1
                        have : live c.st r0 := by
                          by_cases e : r0 = r1
                          · rw [e]; exact hl
                          · unfold live at hq ⊢
                            simp only [killC] at hq
                            rw [List.getElem?_set_ne (fun e' => e e'.symm)] at hq
                            exact hq
                        exact j2 r0 this l2⟩ }
        · cases h
      · cases h
    · cases h
  · cases h

end Eng
end Go.Proofs.YtkpplfghhciacaaDoor

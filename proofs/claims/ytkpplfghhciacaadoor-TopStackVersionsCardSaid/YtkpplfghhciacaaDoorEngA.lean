/-
  An abstract reading of Go memory: typed read-only data, owned growable rows and boxes, with the relation to a concrete world. Conditions: none.
-/
import Derived.WalkKit
set_option linter.unusedVariables false
set_option linter.unusedSimpArgs false
namespace Go.Proofs.YtkpplfghhciacaaDoor
namespace Eng
open Go.RowKit

/-- The types of plain data. -/
inductive Ty where
  | int (k : IntKind)
  | bool
  | str
  | unit
  | pair (a b : Ty)
  | slice (e : Ty)
  | hnd

/-- A slice of integers as it stands in a cell: where it begins, its length, its capacity. -/
structure Hd where
  a : Option Addr
  n : Nat
  c : Nat

def Hd.val (h : Hd) : Value := .slice h.a h.n h.c

def Hd.nil : Hd := ⟨none, 0, 0⟩

/-- Rows of integers by their blocks: what is known of their beginning, and how many cells there are. -/
abbrev Pool := List (Nat × (List Int × Nat))

def Ty.den : Ty → Type
  | .int _ => Int
  | .bool => Bool
  | .str => ByteArray
  | .unit => Unit
  | .pair a b => a.den × b.den
  | .slice e => List e.den
  | .hnd => Hd

/-- The number of cells. -/
def Ty.size : Ty → Nat
  | .pair a b => a.size + b.size
  | .unit => 0
  | _ => 1

def Ty.dflt : (t : Ty) → t.den
  | .int _ => (0 : Int)
  | .bool => false
  | .str => ByteArray.empty
  | .unit => ()
  | .pair a b => (a.dflt, b.dflt)
  | .slice e => ([] : List e.den)
  | .hnd => Hd.nil

def Ty.eqb : Ty → Ty → Bool
  | .int k, .int k' => if k = k' then true else false
  | .bool, .bool => true
  | .str, .str => true
  | .unit, .unit => true
  | .pair a b, .pair c d => Ty.eqb a c && Ty.eqb b d
  | .slice e, .slice f => Ty.eqb e f
  | .hnd, .hnd => true
  | _, _ => false

theorem Ty.eqb_eq : ∀ {t u : Ty}, Ty.eqb t u = true → t = u
  | .int k, .int k', h => by
    simp only [Ty.eqb] at h
    split at h
    · next e => rw [e]
    · cases h
  | .bool, .bool, _ => rfl
  | .str, .str, _ => rfl
  | .unit, .unit, _ => rfl
  | .hnd, .hnd, _ => rfl
  | .pair a b, .pair c d, h => by
    simp only [Ty.eqb, Bool.and_eq_true] at h
    rw [Ty.eqb_eq h.1, Ty.eqb_eq h.2]
  | .slice e, .slice f, h => by
    simp only [Ty.eqb] at h
    rw [Ty.eqb_eq h]
  | .int _, .bool, h | .int _, .str, h | .int _, .unit, h | .int _, .pair _ _, h | .int _, .slice _, h | .int _, .hnd, h => by simp [Ty.eqb] at h
  | .bool, .int _, h | .bool, .str, h | .bool, .unit, h | .bool, .pair _ _, h | .bool, .slice _, h | .bool, .hnd, h => by simp [Ty.eqb] at h
  | .str, .int _, h | .str, .bool, h | .str, .unit, h | .str, .pair _ _, h | .str, .slice _, h | .str, .hnd, h => by simp [Ty.eqb] at h
  | .unit, .int _, h | .unit, .bool, h | .unit, .str, h | .unit, .pair _ _, h | .unit, .slice _, h | .unit, .hnd, h => by simp [Ty.eqb] at h
  | .pair _ _, .int _, h | .pair _ _, .bool, h | .pair _ _, .str, h | .pair _ _, .unit, h | .pair _ _, .slice _, h | .pair _ _, .hnd, h => by simp [Ty.eqb] at h
  | .slice _, .int _, h | .slice _, .bool, h | .slice _, .str, h | .slice _, .unit, h | .slice _, .pair _ _, h | .slice _, .hnd, h => by simp [Ty.eqb] at h
  | .hnd, .int _, h | .hnd, .bool, h | .hnd, .str, h | .hnd, .unit, h | .hnd, .pair _ _, h | .hnd, .slice _, h => by simp [Ty.eqb] at h

/-- Abstract values. -/
inductive V where
  | any
  | x (v : Value)
  | ro (t : Ty) (xs : List t.den)
  | rc (cs : List V) (j : Nat)
  | cl (r i : Nat)
  | el (r i j : Nat)
  | vec (r : Nat)
  | vw (r lo n : Nat)
  | agg (cs : List V)
  | tup (cs : List V)
  | fn (f : Fn) (first captured : List V)
  | gd (g : Nat) (want : Bool) (v : V)
  | hd (h : Hd)
  | pt (a : Option Addr) (i : Nat)

/-- Objects that the run itself has made. -/
inductive Ob where
  | dead
  | cells (cs : List V)
  | vec (t : Ty) (f : Nat) (xs : List t.den)
  | pool (m : Pool)

def enc : (t : Ty) → t.den → List V
  | .int k, n => [.x (.int k n)]
  | .bool, b => [.x (.bool b)]
  | .str, s => [.x (.string s)]
  | .unit, _ => []
  | .pair a b, p => enc a p.1 ++ enc b p.2
  | .slice e, xs => [.ro e xs]
  | .hnd, h => [.hd h]

def dec : (t : Ty) → List V → Option (t.den × List V)
  | .int k, l => match l with
    | .x (.int k' n) :: r => if k' = k then some (n, r) else none
    | _ => none
  | .bool, l => match l with
    | .x (.bool b) :: r => some (b, r)
    | _ => none
  | .str, l => match l with
    | .x (.string s) :: r => some (s, r)
    | _ => none
  | .unit, l => some ((), l)
  | .pair a b, l => match dec a l with
    | some (x, r) => match dec b r with
      | some (y, r') => some ((x, y), r')
      | none => none
    | none => none
  | .slice e, l => match l with
    | .ro t xs :: r => if h : Ty.eqb t e = true then some (Ty.eqb_eq h ▸ xs, r) else none
    | .x (.slice none 0 0) :: r => some (([] : List e.den), r)
    | _ => none
  | .hnd, l => match l with
    | .hd h :: r => some (h, r)
    | .x (.slice none 0 0) :: r => some (Hd.nil, r)
    | _ => none

/-- A state of memory: the concrete world, the blocks of the objects, the objects, and the cells that nobody writes any more. -/
structure Cfg where
  w : World
  bl : Nat → Option Nat
  st : List Ob
  A : Nat → Nat → Prop

/-- A slice that holds the elements xs, each of which lies in its row as R says, in cells that are not written any more. -/
def SlV (w : World) (A : Nat → Nat → Prop) (e : Ty) (R : e.den → List Value → Prop) (xs : List e.den) (us : List Value) : Prop :=
  (us = [.slice none 0 0] ∧ xs = []) ∨
    ∃ b o sp cap, us = [.slice (some ⟨b, o, sp⟩) xs.length cap] ∧ (xs ≠ [] → sp = none) ∧ xs.length ≤ cap ∧
      ∀ (i : Nat) (y : e.den), xs[i]? = some y → ∃ cs : List Value, cs.length = e.size ∧ R y cs ∧
        ∀ (j : Nat) (u : Value), cs[j]? = some u → w.cell? ⟨b, o + i * e.size + j, none⟩ = some u ∧ A b (o + i * e.size + j)

/-- Typed data lies in these cells, and all that they point to is not written any more. -/
def RoV (w : World) (A : Nat → Nat → Prop) : (t : Ty) → t.den → List Value → Prop
  | .int k, n, us => us = [.int k n]
  | .bool, b, us => us = [.bool b]
  | .str, s, us => us = [.string s]
  | .unit, _, us => us = []
  | .pair a b, p, us => ∃ us1 us2, us = us1 ++ us2 ∧ RoV w A a p.1 us1 ∧ RoV w A b p.2 us2
  | .slice e, xs, us => SlV w A e (RoV w A e) xs us
  | .hnd, h, us => us = [h.val]

theorem RoV.size {w : World} {A : Nat → Nat → Prop} : ∀ {t : Ty} {x : t.den} {us : List Value}, RoV w A t x us → us.length = t.size
  | .int _, _, _, h | .bool, _, _, h | .str, _, _, h | .unit, _, _, h | .hnd, _, _, h => by subst h; rfl
  | .pair a b, _, _, h => by
    obtain ⟨us1, us2, rfl, h1, h2⟩ := h
    rw [List.length_append, RoV.size h1, RoV.size h2]; rfl
  | .slice e, _, _, h => by
    rcases h with ⟨rfl, _⟩ | ⟨b, o, sp, cap, rfl, _⟩ <;> rfl

theorem RoV.ext {w w' : World} {A A' : Nat → Nat → Prop} (hs : ∀ b o, A b o → A' b o) (hc : ∀ b o, A b o → w'.cell? ⟨b, o, none⟩ = w.cell? ⟨b, o, none⟩) :
    ∀ {t : Ty} {x : t.den} {us : List Value}, RoV w A t x us → RoV w' A' t x us
  | .int _, _, _, h | .bool, _, _, h | .str, _, _, h | .unit, _, _, h | .hnd, _, _, h => h
  | .pair a b, _, _, h => by
    obtain ⟨us1, us2, e, h1, h2⟩ := h
    exact ⟨us1, us2, e, RoV.ext hs hc h1, RoV.ext hs hc h2⟩
  | .slice e, _, _, h => by
    rcases h with h | ⟨b, o, sp, cap, e1, hsp, hl, h⟩
    · exact .inl h
    · refine .inr ⟨b, o, sp, cap, e1, hsp, hl, fun i y hy => ?_⟩
      obtain ⟨cs, hsz, hr, hcell⟩ := h i y hy
      refine ⟨cs, hsz, RoV.ext hs hc hr, fun j u hu => ?_⟩
      obtain ⟨h1, h2⟩ := hcell j u hu
      exact ⟨(hc _ _ h2).trans h1, hs _ _ h2⟩

/-- The block holds n cells. -/
def Rows (w : World) (b n : Nat) : Prop := ∃ ce e fz, w.heap[b]? = some (.cells ce e fz) ∧ ce.size = n

mutual
def RelV (c : Cfg) : V → Value → Prop
  | .any, _ => True
  | .x v, u => u = v
  | .ro t xs, u => RoV c.w c.A (.slice t) xs [u]
  | .rc cs j, u => ∃ b o, u = .pointer (some ⟨b, o + j, none⟩) ∧ RelC c cs b o
  | .cl r i, u => match c.st[r]? with
    | none => False
    | some (.cells _) => ∃ b, c.bl r = some b ∧ u = .pointer (some ⟨b, i, none⟩)
    | some _ => ∃ b o, u = .pointer (some ⟨b, o, none⟩)
  | .el r i j, u => match c.st[r]? with
    | none => False
    | some (.vec t _ xs) => ∃ b, c.bl r = some b ∧ u = .pointer (some ⟨b, i * t.size + j, none⟩) ∧ i < xs.length
    | some (.cells _) => ∃ b, c.bl r = some b ∧ u = .pointer (some ⟨b, j + i, none⟩)
    | some _ => ∃ b o, u = .pointer (some ⟨b, o, none⟩)
  | .vec r, u => match c.st[r]? with
    | none => False
    | some (.vec t _ xs) => (c.bl r = none ∧ u = .slice none 0 0) ∨
        ∃ b cap, c.bl r = some b ∧ u = .slice (some ⟨b, 0, none⟩) xs.length cap ∧ Rows c.w b (cap * t.size)
    | some _ => ∃ a n k, u = .slice a n k
  | .vw r lo n, u => match c.st[r]? with
    | none => False
    | some (.vec t _ xs) => lo + n ≤ xs.length ∧ ((c.bl r = none ∧ u = .slice none 0 0) ∨
        (∃ b cap, c.bl r = some b ∧ u = .slice (some ⟨b, lo * t.size, none⟩) n cap ∧ n ≤ cap ∧ Rows c.w b ((lo + cap) * t.size)) ∨ (n = 0 ∧ 0 < lo ∧ ∃ a, u = .slice (some a) 0 0))
    | some _ => ∃ a n k, u = .slice a n k
  | .agg vs, u => ∃ us, u = .agg us ∧ RelVs c vs us.toList
  | .tup vs, u => ∃ us, u = .tuple us ∧ RelVs c vs us.toList
  | .fn f first captured, u => ∃ us1 us2, u = .func f us1 us2 ∧ RelVs c first us1.toList ∧ RelVs c captured us2.toList
  | .gd _ _ _, _ => True
  | .hd h, u => u = h.val
  | .pt a i, u => ∃ b o, a = some ⟨b, o, none⟩ ∧ u = .pointer (some ⟨b, o + i, none⟩)
def RelVs (c : Cfg) : List V → List Value → Prop
  | [], us => us = []
  | v :: vs, us => ∃ u us', us = u :: us' ∧ RelV c v u ∧ RelVs c vs us'
def RelC (c : Cfg) : List V → Nat → Nat → Prop
  | [], _, _ => True
  | v :: vs, b, o => (∃ u, c.w.cell? ⟨b, o, none⟩ = some u ∧ c.A b o ∧ RelV c v u) ∧ RelC c vs b (o + 1)
end

def live (st : List Ob) (r : Nat) : Prop := match st[r]? with
  | some .dead => False
  | none => False
  | _ => True

def OkOb (c : Cfg) (r : Nat) : Ob → Prop
  | .dead => True
  | .cells cs => ∃ b ce e, c.bl r = some b ∧ c.w.heap[b]? = some (.cells ce e (0, 0)) ∧ RelVs c cs ce.toList ∧ ∀ o, ¬ c.A b o
  | .vec t f xs => 0 < t.size ∧ f ≤ xs.length ∧ ((c.bl r = none ∧ xs = ([] : List t.den)) ∨
      ∃ b ce e cap, c.bl r = some b ∧ c.w.heap[b]? = some (.cells ce e (0, 0)) ∧ ce.size = cap * t.size ∧ xs.length ≤ cap ∧
        (∀ (i : Nat) (y : t.den), xs[i]? = some y → RoV c.w c.A t y ((ce.toList.drop (i * t.size)).take t.size)) ∧
        ∀ o, f * t.size ≤ o → ¬ c.A b o)
  | .pool _ => c.bl r = none

/-- What there was when the run began. -/
structure Base where
  w : World
  A : Nat → Nat → Prop
  own : Nat → Prop

/-- The blocks that the run may change: new ones, and those that were handed over. -/
def Base.may (w0 : Base) (b : Nat) : Prop := w0.w.heap.size ≤ b ∨ w0.own b

/-- All other blocks are as they were. -/
structure Kept (w0 : Base) (w : World) : Prop where
  b0 : Below 0 w0.w w
  block : ∀ k, ¬ w0.may k → w.heap[k]? = w0.w.heap[k]?

theorem Kept.size {w0 : Base} {w : World} (h : Kept w0 w) : w0.w.heap.size ≤ w.heap.size := h.b0.size

theorem Kept.refl (w : World) (A : Nat → Nat → Prop) (own : Nat → Prop) : Kept ⟨w, A, own⟩ w := ⟨Below.refl _ _, fun _ _ => rfl⟩

theorem Kept.alloc {w0 : Base} {w : World} (h : Kept w0 w) (hlt : w0.w.heap.size ≤ w.heap.size) (o : Obj) : Kept w0 (w.alloc o) :=
  ⟨h.b0.alloc (Nat.zero_le _) o, fun k hk => by
    have : k < w.heap.size := by
      rcases Nat.lt_or_ge k w0.w.heap.size with g | g
      · omega
      · exact absurd (.inl g) hk
    rw [Below.heap_alloc w o k this]
    exact h.block k hk⟩

theorem Kept.drew {w0 : Base} {w : World} (h : Kept w0 w) : Kept w0 w.drew := ⟨h.b0.drew, h.block⟩

theorem noOwn {w : World} {A : Nat → Nat → Prop} {k : Nat} (h : k < w.heap.size) : ¬ Base.may ⟨w, A, fun _ => False⟩ k := fun hm => hm.elim (fun g => by simp only at g; omega) id

/-- The rows of a pool lie in blocks of their own. -/
def Pok (w0 : Base) (c : Cfg) (m : Pool) : Prop :=
  (m.map (·.1)).Nodup ∧ ∀ b row, (b, row) ∈ m → w0.may b ∧ (∀ r, live c.st r → c.bl r ≠ some b) ∧ (∀ o, ¬ c.A b o) ∧
    ∃ ce e, c.w.heap[b]? = some (.cells ce e (0, 0)) ∧ ce.size = row.2 ∧ row.1.length ≤ row.2 ∧ ce.toList.take row.1.length = row.1.map (Value.int .i64)

/-- There is at most one pool. -/
def PoolOk (w0 : Base) (c : Cfg) : Prop :=
  (∀ (r r' : Nat) (m m' : Pool), c.st[r]? = some (Ob.pool m) → c.st[r']? = some (Ob.pool m') → r = r') ∧ ∀ (r : Nat) (m : Pool), c.st[r]? = some (Ob.pool m) → Pok w0 c m

/-- The state of memory is as the objects say, and what was there when the run began is as it was. -/
structure Rel (w0 : Base) (c : Cfg) : Prop where
  below : Kept w0 c.w
  inj : ∀ r r' b, live c.st r → live c.st r' → c.bl r = some b → c.bl r' = some b → r = r'
  fresh : ∀ r b, live c.st r → c.bl r = some b → w0.may b
  bound : ∀ b o, c.A b o → b < c.w.heap.size
  newA : ∀ b o, c.A b o → w0.A b o ∨ w0.may b
  obj : ∀ r ob, c.st[r]? = some ob → OkOb c r ob
  pl : PoolOk w0 c

def SameOb (c c' : Cfg) (r : Nat) : Ob → Prop
  | .dead => True
  | .cells _ => (∃ cs, c.st[r]? = some (.cells cs)) ∧ c'.bl r = c.bl r
  | .vec t _ xs' => ∃ f xs, c.st[r]? = some (.vec t f xs) ∧ xs'.length = xs.length ∧ c'.bl r = c.bl r ∧ ∀ b n, c.bl r = some b → Rows c.w b n → Rows c'.w b n
  | .pool _ => ∃ m, c.st[r]? = some (Ob.pool m)

/-- From one state to a later one. -/
structure Ext (c c' : Cfg) : Prop where
  size : c.w.heap.size ≤ c'.w.heap.size
  sub : ∀ b o, c.A b o → c'.A b o
  cells : ∀ b o, c.A b o → c'.w.cell? ⟨b, o, none⟩ = c.w.cell? ⟨b, o, none⟩
  len : c.st.length ≤ c'.st.length
  keep : ∀ r ob, r < c.st.length → c'.st[r]? = some ob → SameOb c c' r ob

theorem cl_shape {c : Cfg} {r i : Nat} {u : Value} (h : RelV c (.cl r i) u) : ∃ b o, u = .pointer (some ⟨b, o, none⟩) := by
  simp only [RelV] at h
  split at h
  · exact h.elim
  · obtain ⟨b, _, e⟩ := h; exact ⟨b, _, e⟩
  · exact h

theorem el_shape {c : Cfg} {r i j : Nat} {u : Value} (h : RelV c (.el r i j) u) : ∃ b o, u = .pointer (some ⟨b, o, none⟩) := by
  simp only [RelV] at h
  split at h
  · exact h.elim
  · obtain ⟨b, _, e, _⟩ := h; exact ⟨b, _, e⟩
  · obtain ⟨b, _, e⟩ := h; exact ⟨b, _, e⟩
  · exact h

theorem vec_shape {c : Cfg} {r : Nat} {u : Value} (h : RelV c (.vec r) u) : ∃ a n k, u = .slice a n k := by
  simp only [RelV] at h
  split at h
  · exact h.elim
  · rcases h with ⟨_, e⟩ | ⟨b, cap, _, e, _⟩ <;> exact ⟨_, _, _, e⟩
  · exact h

theorem vw_shape {c : Cfg} {r lo n : Nat} {u : Value} (h : RelV c (.vw r lo n) u) : ∃ a n k, u = .slice a n k := by
  simp only [RelV] at h
  split at h
  · exact h.elim
  · obtain ⟨_, ⟨_, e⟩ | ⟨b, cap, _, e, _⟩ | ⟨_, _, a, e⟩⟩ := h <;> exact ⟨_, _, _, e⟩
  · exact h

mutual
theorem RelV.ext {c c' : Cfg} (h : Ext c c') : ∀ (v : V) (u : Value), RelV c v u → RelV c' v u
  | .any, _, _ => by simp only [RelV]
  | .x v, u, hv => by simpa only [RelV] using hv
  | .ro t xs, u, hv => by
    simp only [RelV] at *
    exact RoV.ext h.sub h.cells hv
  | .rc cs j, u, hv => by
    simp only [RelV] at *
    obtain ⟨b, o, e, hc⟩ := hv
    exact ⟨b, o, e, RelC.ext h cs b o hc⟩
  | .cl r i, u, hv => by
    have hsh := cl_shape hv
    simp only [RelV] at *
    cases hr : c.st[r]? with
    | none => rw [hr] at hv; exact hv.elim
    | some ob =>
      have hlt : r < c.st.length := by
        rcases Nat.lt_or_ge r c.st.length with g | g
        · exact g
        · rw [List.getElem?_eq_none g] at hr; cases hr
      cases hr' : c'.st[r]? with
      | none => rw [List.getElem?_eq_none_iff] at hr'; have := h.len; omega
      | some ob' =>
        have hk := h.keep r ob' hlt hr'
        cases ob' with
        | dead => exact hsh
        | vec t f xs => exact hsh
        | pool m => exact hsh
        | cells cs' =>
          obtain ⟨⟨cs, hcs⟩, hb⟩ := hk
          rw [hcs] at hr
          cases hr
          rw [hcs] at hv
          simpa only [hb] using hv
  | .el r i j, u, hv => by
    have hsh := el_shape hv
    simp only [RelV] at *
    cases hr : c.st[r]? with
    | none => rw [hr] at hv; exact hv.elim
    | some ob =>
      have hlt : r < c.st.length := by
        rcases Nat.lt_or_ge r c.st.length with g | g
        · exact g
        · rw [List.getElem?_eq_none g] at hr; cases hr
      cases hr' : c'.st[r]? with
      | none => rw [List.getElem?_eq_none_iff] at hr'; have := h.len; omega
      | some ob' =>
        have hk := h.keep r ob' hlt hr'
        cases ob' with
        | dead => exact hsh
        | cells cs' =>
          obtain ⟨⟨cs, hcs⟩, hb⟩ := hk
          rw [hcs] at hr
          cases hr
          rw [hcs] at hv
          simpa only [hb] using hv
        | pool m => exact hsh
        | vec t f xs =>
          obtain ⟨f0, xs0, hcs, hl, hb, _⟩ := hk
          rw [hcs] at hr
          cases hr
          rw [hcs] at hv
          simpa only [hb, hl] using hv
  | .vec r, u, hv => by
    have hsh := vec_shape hv
    simp only [RelV] at *
    cases hr : c.st[r]? with
    | none => rw [hr] at hv; exact hv.elim
    | some ob =>
      have hlt : r < c.st.length := by
        rcases Nat.lt_or_ge r c.st.length with g | g
        · exact g
        · rw [List.getElem?_eq_none g] at hr; cases hr
      cases hr' : c'.st[r]? with
      | none => rw [List.getElem?_eq_none_iff] at hr'; have := h.len; omega
      | some ob' =>
        have hk := h.keep r ob' hlt hr'
        cases ob' with
        | dead => exact hsh
        | cells cs => exact hsh
        | pool m => exact hsh
        | vec t f xs =>
          obtain ⟨f0, xs0, hcs, hl, hb, hrows⟩ := hk
          rw [hcs] at hr
          cases hr
          rw [hcs] at hv
          rcases hv with ⟨h1, h2⟩ | ⟨b, cap, h1, h2, h3⟩
          · exact .inl ⟨hb.trans h1, h2⟩
          · exact .inr ⟨b, cap, hb.trans h1, by rw [hl]; exact h2, hrows b _ h1 h3⟩
  | .vw r lo n, u, hv => by
    have hsh := vw_shape hv
    simp only [RelV] at *
    cases hr : c.st[r]? with
    | none => rw [hr] at hv; exact hv.elim
    | some ob =>
      have hlt : r < c.st.length := by
        rcases Nat.lt_or_ge r c.st.length with g | g
        · exact g
        · rw [List.getElem?_eq_none g] at hr; cases hr
      cases hr' : c'.st[r]? with
      | none => rw [List.getElem?_eq_none_iff] at hr'; have := h.len; omega
      | some ob' =>
        have hk := h.keep r ob' hlt hr'
        cases ob' with
        | dead => exact hsh
        | cells cs => exact hsh
        | pool m => exact hsh
        | vec t f xs =>
          obtain ⟨f0, xs0, hcs, hl, hb, hrows⟩ := hk
          rw [hcs] at hr
          cases hr
          rw [hcs] at hv
          obtain ⟨hlo, hv⟩ := hv
          refine ⟨by rw [hl]; exact hlo, ?_⟩
          rcases hv with ⟨h1, h2⟩ | ⟨b, cap, h1, h2, h3, h4⟩ | h3
          · exact .inl ⟨hb.trans h1, h2⟩
          · exact .inr (.inl ⟨b, cap, hb.trans h1, h2, h3, hrows b _ h1 h4⟩)
          · exact .inr (.inr h3)
  | .agg vs, u, hv => by
    simp only [RelV] at *
    obtain ⟨us, e, hc⟩ := hv
    exact ⟨us, e, RelVs.ext h vs _ hc⟩
  | .tup vs, u, hv => by
    simp only [RelV] at *
    obtain ⟨us, e, hc⟩ := hv
    exact ⟨us, e, RelVs.ext h vs _ hc⟩
  | .fn f a b, u, hv => by
    simp only [RelV] at *
    obtain ⟨us1, us2, e, h1, h2⟩ := hv
    exact ⟨us1, us2, e, RelVs.ext h a _ h1, RelVs.ext h b _ h2⟩
  | .gd _ _ _, _, _ => by simp only [RelV]
  | .hd _, _, hv => by simpa only [RelV] using hv
  | .pt _ _, _, hv => by simpa only [RelV] using hv
theorem RelVs.ext {c c' : Cfg} (h : Ext c c') : ∀ (vs : List V) (us : List Value), RelVs c vs us → RelVs c' vs us
  | [], _, hv => by simpa only [RelVs] using hv
  | v :: vs, us, hv => by
    simp only [RelVs] at *
    obtain ⟨u, us', e, h1, h2⟩ := hv
    exact ⟨u, us', e, RelV.ext h v u h1, RelVs.ext h vs us' h2⟩
theorem RelC.ext {c c' : Cfg} (h : Ext c c') : ∀ (vs : List V) (b o : Nat), RelC c vs b o → RelC c' vs b o
  | [], _, _, _ => by simp only [RelC]
  | v :: vs, b, o, hv => by
    simp only [RelC] at *
    obtain ⟨⟨u, h1, h2, h3⟩, h4⟩ := hv
    exact ⟨⟨u, (h.cells _ _ h2).trans h1, h.sub _ _ h2, RelV.ext h v u h3⟩, RelC.ext h vs b (o + 1) h4⟩
end

/-- What becomes of the pool where its objects keep their names. -/
theorem PoolOk.keep {w0 : Base} {c c' : Cfg} (h : PoolOk w0 c) (hst : ∀ (r : Nat) (m : Pool), c'.st[r]? = some (Ob.pool m) → c.st[r]? = some (Ob.pool m))
    (hbl : ∀ r b, live c'.st r → c'.bl r = some b → (∃ r0, live c.st r0 ∧ c.bl r0 = some b) ∨ c.w.heap.size ≤ b ∨ ∀ (r : Nat) (m : Pool) (row : List Int × Nat), c.st[r]? = some (Ob.pool m) → (b, row) ∉ m)
    (hA : ∀ b o, c'.A b o → c.A b o ∨ (∃ r0, live c.st r0 ∧ c.bl r0 = some b) ∨ ∀ (r : Nat) (m : Pool) (row : List Int × Nat), c.st[r]? = some (Ob.pool m) → (b, row) ∉ m)
    (hw : ∀ b, b < c.w.heap.size → (¬ ∃ r0, live c.st r0 ∧ c.bl r0 = some b) → (∃ (r : Nat) (m : Pool) (row : List Int × Nat), c.st[r]? = some (Ob.pool m) ∧ (b, row) ∈ m) → c'.w.heap[b]? = c.w.heap[b]?) : PoolOk w0 c' := by
  refine ⟨fun r r' m m' h1 h2 => h.1 r r' m m' (hst r m h1) (hst r' m' h2), fun r m hm => ?_⟩
  have hm0 := hst r m hm
  obtain ⟨hn, hp⟩ := h.2 r m hm0
  refine ⟨hn, fun b row hb => ?_⟩
  obtain ⟨h1, h2, h3, ce, e, h4, h5⟩ := hp b row hb
  have hlt : b < c.w.heap.size := by
    obtain ⟨g, _⟩ := Array.getElem?_eq_some_iff.1 h4
    exact g
  have hno : ¬ ∃ r0, live c.st r0 ∧ c.bl r0 = some b := fun ⟨r0, g1, g2⟩ => h2 r0 g1 g2
  refine ⟨h1, fun r0 g1 g2 => ?_, fun o g => ?_, ce, e, ?_, h5⟩
  · rcases hbl r0 b g1 g2 with g | g | g
    · exact hno g
    · omega
    · exact g r m row hm0 hb
  · rcases hA b o g with g | g | g
    · exact h3 o g
    · exact hno g
    · exact g r m row hm0 hb
  · rw [hw b hlt hno ⟨r, m, row, hm0, hb⟩]; exact h4

theorem PoolOk.none {w0 : Base} {c : Cfg} (h : ∀ (r : Nat) (m : Pool), c.st[r]? ≠ some (Ob.pool m)) : PoolOk w0 c :=
  ⟨fun r _ m _ h1 => absurd h1 (h r m), fun r m h1 => absurd h1 (h r m)⟩

end Eng
end Go.Proofs.YtkpplfghhciacaaDoor

/-
  Slices of integers that stand in cells by their headers, and the pool of their rows: what is read through them. Conditions: none.
-/
import Derived.Test.YtkpplfghhciacaaDoorEngD
set_option linter.unusedVariables false
set_option linter.unusedSimpArgs false
namespace Go.Proofs.YtkpplfghhciacaaDoor
namespace Eng
open Go.RowKit

/-- The row of a block. -/
def pfind : Pool → Nat → Option (List Int × Nat)
  | [], _ => none
  | (b, r) :: m, x => if b = x then some r else pfind m x

theorem pfind_mem : ∀ {m : Pool} {b : Nat} {r : List Int × Nat}, pfind m b = some r → (b, r) ∈ m
  | (b', r') :: m, b, r, h => by
    simp only [pfind] at h
    split at h
    · next e => subst e; cases h; simp
    · exact List.mem_cons_of_mem _ (pfind_mem h)

/-- What is known of a row. -/
def prow (m : Pool) (b : Nat) : List Int := match pfind m b with
  | some r => r.1
  | none => []

/-- The pool among the objects, and its name. -/
def poolAt : Nat → List Ob → Option (Nat × Pool)
  | _, [] => none
  | i, .pool m :: _ => some (i, m)
  | i, _ :: r => poolAt (i + 1) r

theorem poolAt_get : ∀ {st : List Ob} {i p : Nat} {m : Pool}, poolAt i st = some (p, m) → i ≤ p ∧ st[p - i]? = some (.pool m)
  | ob :: st, i, p, m, h => by
    have next : poolAt (i + 1) st = some (p, m) → i ≤ p ∧ (ob :: st)[p - i]? = some (.pool m) := fun h => by
      obtain ⟨h1, h2⟩ := poolAt_get h
      refine ⟨by omega, ?_⟩
      rw [show p - i = (p - (i + 1)) + 1 from by omega, List.getElem?_cons_succ]
      exact h2
    cases ob with
    | pool m' =>
      simp only [poolAt, Option.some.injEq, Prod.mk.injEq] at h
      obtain ⟨rfl, rfl⟩ := h
      exact ⟨Nat.le_refl _, by simp⟩
    | _ => exact next h

theorem poolAt_st {c : Cfg} {p : Nat} {m : Pool} (h : poolAt 0 c.st = some (p, m)) : c.st[p]? = some (.pool m) := by
  have := (poolAt_get h).2
  simpa using this

/-- The slice lies in a row of the pool. -/
def Hd.ok (m : Pool) (h : Hd) : Prop :=
  h.n ≤ h.c ∧ (h.c = 0 ∨ ∃ b o row, h.a = some ⟨b, o, none⟩ ∧ pfind m b = some row ∧ o + h.n ≤ row.1.length ∧ o + h.c ≤ row.2)

def Hd.get (m : Pool) (h : Hd) : List Int := match h.a with
  | some a => ((prow m a.block).drop a.off).take h.n
  | none => []

theorem Hd.get_len {m : Pool} {h : Hd} (hk : h.ok m) : (h.get m).length = h.n := by
  obtain ⟨h1, h2 | ⟨b, o, row, h2, h3, h4, _⟩⟩ := hk
  · unfold Hd.get
    rw [show h.n = 0 from by omega]
    cases h.a <;> simp
  · unfold Hd.get
    rw [h2]
    simp only [prow, h3, List.length_take, List.length_drop]
    omega

/-- The cell lies in a row of the pool. -/
def pok (m : Pool) (a : Option Addr) (i : Nat) : Prop :=
  ∃ b o row, a = some ⟨b, o, none⟩ ∧ pfind m b = some row ∧ o + i < row.1.length

def pget (m : Pool) (a : Option Addr) (i : Nat) : Int := match a with
  | some a => (prow m a.block).getD (a.off + i) 0
  | none => 0

theorem pool_row {w0 : Base} {c : Cfg} (hr : Rel w0 c) {p : Nat} {m : Pool} (hp : poolAt 0 c.st = some (p, m)) {b : Nat} {row : List Int × Nat} (h : pfind m b = some row) :
    ∃ ce e, c.w.heap[b]? = some (.cells ce e (0, 0)) ∧ ce.size = row.2 ∧ row.1.length ≤ row.2 ∧ ce.toList.take row.1.length = row.1.map (Value.int .i64) :=
  (((hr.pl.2 p m (poolAt_st hp)).2 b row (pfind_mem h)).2.2.2)

theorem pool_cell {w0 : Base} {c : Cfg} (hr : Rel w0 c) {p : Nat} {m : Pool} (hp : poolAt 0 c.st = some (p, m)) {b : Nat} {row : List Int × Nat} (h : pfind m b = some row) {j : Nat} (hj : j < row.1.length) :
    c.w.cell? ⟨b, j, none⟩ = some (.int .i64 (row.1.getD j 0)) := by
  obtain ⟨ce, e, h1, h2, h3, h4⟩ := pool_row hr hp h
  rw [cell_of_row _ _ _ _ _ _ h1, ← Array.getElem?_toList]
  have := congrArg (fun l => l[j]?) h4
  simp only [List.getElem?_take, if_pos hj, List.getElem?_map, List.getElem?_eq_getElem hj, Option.map_some] at this
  rw [this]
  simp [List.getD, List.getElem?_eq_getElem hj]

/-- A number of the pool. -/
def pload (P : Program) (st : List Ob) (t : TypeId) (a : V) : Option (Option Prop × V) := match a with
  | .pt a i => match poolAt 0 st with
    | some (_, m) => match getV P t [.x (.int .i64 (pget m a i))] with
      | some v => some (some (pok m a i), v)
      | none => none
    | none => none
  | .el r i j => match st[r]? with
    | some (.cells cs) => match pick i (cs.drop j) with
      | some (q, y) => match getV P t [y] with
        | some v => some (some q, v)
        | none => none
      | none => none
    | _ => none
  | _ => none

theorem pload_sound {P : Program} {w0 : Base} {c : Cfg} (hr : Rel w0 c) {t : TypeId} {a v : V} {p : Option Prop} {u : Value} (h : pload P c.st t a = some (p, v)) (hp : vc p) (hv : RelV c a u) :
    ∃ x, (Instr.loadAt t u).run P c.w = .ok x c.w ∧ RelV c v x := by
  unfold pload at h
  split at h
  · next a i =>
    split at h
    · next q m hm =>
      split at h
      · next v' hg =>
        cases h
        obtain ⟨b, o, row, rfl, h2, h3⟩ := hp
        simp only [RelV] at hv
        obtain ⟨b', o', e, rfl⟩ := hv
        cases e
        have hc := pool_cell hr hm h2 h3
        obtain ⟨x, g1, g2⟩ := getV_sound (c := c) (us := [.int .i64 (pget m (some ⟨b, o, none⟩) i)]) (b := b) (o := o + i) hg (RelVs.cons (by simp only [RelV]) RelVs.nil) (fun j x hj => by
          cases j with
          | zero =>
            simp only [List.getElem?_cons_zero, Option.some.injEq] at hj
            subst hj
            rw [Nat.add_zero, hc]
            simp [pget, prow, h2]
          | succ j => simp at hj)
        exact ⟨x, by simp [Instr.loadAt, Instr.sureAddr, g1], g2⟩
      · cases h
    · cases h
  · next r i j =>
    split at h
    · next cs hst =>
      split at h
      · next q y hpk =>
        split at h
        · next v' hg =>
          cases h
          simp only [RelV, hst] at hv
          obtain ⟨b, hb, rfl⟩ := hv
          obtain ⟨b', ce, ty, hb', hheap, hvs, _⟩ := hr.obj r _ hst
          rw [hb] at hb'
          cases hb'
          obtain ⟨x0, hx0, hrel⟩ := pick_rel hpk hp (hvs.drop j)
          obtain ⟨x, g1, g2⟩ := getV_sound (c := c) (us := [x0]) (b := b) (o := j + i) hg (RelVs.cons hrel RelVs.nil) (fun k x hk => by
            cases k with
            | zero =>
              simp only [List.getElem?_cons_zero, Option.some.injEq] at hk
              subst hk
              rw [Nat.add_zero, cell_of_row c.w b _ ce ty _ hheap]
              rw [List.getElem?_drop] at hx0
              simpa using hx0
            | succ k => simp at hk)
          exact ⟨x, by simp [Instr.loadAt, Instr.sureAddr, g1], g2⟩
        · cases h
      · cases h
    · cases h
  · cases h

/-- The place of a number of the pool. -/
def pindexAddr (P : Program) (st : List Ob) (t : TypeId) (x i : V) : Option (Option Prop × V) := match x, i with
  | .hd h, .x (.int _ n) => match P.underlying t with
    | some (.slice e) => match P.info? e, poolAt 0 st with
      | some inf, some (_, m) => if inf.size = 1 then some (some (inB n h.n ∧ h.ok m), .pt h.a n.toNat) else none
      | _, _ => none
    | _ => none
  | _, _ => none

theorem pindexAddr_sound {P : Program} {c : Cfg} {t : TypeId} {x i v : V} {p : Option Prop} {u ui : Value} (h : pindexAddr P c.st t x i = some (p, v)) (hp : vc p)
    (hx : RelV c x u) (hi : RelV c i ui) : ∃ u', (Instr.indexAt t u ui).run P c.w = .ok u' c.w ∧ RelV c v u' := by
  unfold pindexAddr at h
  split at h
  · next hd k n =>
    simp only [RelV] at hi hx
    subst hi
    split at h
    · next e hu =>
      split at h
      · next inf q m hinf hm =>
        split at h
        · next hs =>
          cases h
          obtain ⟨⟨h1, h2⟩, h3, h4 | ⟨b, o, row, h4, h5, h6, _⟩⟩ := hp
          · omega
          · refine ⟨.pointer (some ⟨b, o + n.toNat, none⟩), ?_, ?_⟩
            · rw [hx, Hd.val, h4]
              simp [Instr.indexAt, asIntOf, run_underlying hu, h1, h2, run_sizeOf' hinf, hs, add_addr]
            · simp only [RelV]
              exact ⟨b, o, h4, rfl⟩
        · cases h
      · cases h
    · cases h
  · cases h

def Hd.cut (h : Hd) (l k : Nat) : Hd := ⟨if h.c = l then h.a else h.a.map (·.add l), k - l, h.c - l⟩

/-- A part of such a slice. -/
def pslice (P : Program) (t : TypeId) (x : V) (lo hi : Option V) : Option (Option Prop × V) := match x with
  | .hd h => match P.underlying t with
    | some (.slice e) => match P.info? e with
      | some inf => if inf.size = 1 then
          match lo, hi with
          | some (.x (.int _ l)), none => some (some ((0 ≤ l ∧ l ≤ h.n) ∧ h.n ≤ h.c), .hd (h.cut l.toNat h.n))
          | none, some (.x (.int _ k)) => some (some ((0 ≤ k ∧ k ≤ h.n) ∧ h.n ≤ h.c), .hd (h.cut 0 k.toNat))
          | some (.x (.int _ l)), some (.x (.int _ k)) => some (some ((0 ≤ l ∧ l ≤ k ∧ k ≤ h.n) ∧ h.n ≤ h.c), .hd (h.cut l.toNat k.toNat))
          | _, _ => none
        else none
      | none => none
    | _ => none
  | _ => none

theorem pslice_sound {P : Program} {c : Cfg} {t : TypeId} {x v : V} {lo hi : Option V} {lo' hi' : Option Value} {p : Option Prop} {u : Value} (h : pslice P t x lo hi = some (p, v)) (hp : vc p)
    (hx : RelV c x u) (hl : RelO c lo lo') (hh : RelO c hi hi') : ∃ u', (Instr.sliceAt t u lo' hi' none).run P c.w = .ok u' c.w ∧ RelV c v u' := by
  unfold pslice at h
  split at h
  · next hd =>
    split at h
    · next e hu =>
      split at h
      · next inf hinf =>
        split at h
        · next hs =>
          have hel : P.elem t = e := by simp [Program.elem, hu]
          have hu' : P.underlying t = some (.slice (P.elem t)) := by rw [hel]; exact hu
          have hsz : ∀ w, (sizeOf (P.elem t)).run P w = .ok 1 w := fun w => by rw [hel, run_sizeOf' hinf, hs]
          simp only [RelV] at hx
          subst hx
          have hcut : ∀ l k, sliced hd.a l k hd.c 1 = (hd.cut l k).val := fun l k => by
            simp only [sliced, Hd.cut, Hd.val, Nat.mul_one]
          split at h
          · next k l =>
            cases h
            cases lo' <;> cases hi' <;> simp only [RelO, RelV] at hl hh
            subst hl
            obtain ⟨⟨h1, h2⟩, h3⟩ := hp
            refine ⟨_, by rw [Hd.val, run_sliceAt_slice c.w t _ _ _ _ hu', run_slice_l c.w t hd.a hd.n hd.c hu' _ _ h1 (by omega), hsz]; rfl, ?_⟩
            simp only [RelV]
            exact hcut _ _
          · next k m =>
            cases h
            cases lo' <;> cases hi' <;> simp only [RelO, RelV] at hl hh
            subst hh
            obtain ⟨⟨h1, h2⟩, h3⟩ := hp
            refine ⟨_, by rw [Hd.val, run_sliceAt_slice c.w t _ _ _ _ hu', run_slice_h c.w t hd.a hd.n hd.c hu' _ _ h1 (by omega), hsz]; rfl, ?_⟩
            simp only [RelV]
            exact hcut _ _
          · next k l k' m =>
            cases h
            cases lo' <;> cases hi' <;> simp only [RelO, RelV] at hl hh
            subst hl; subst hh
            obtain ⟨⟨h1, h2, h2'⟩, h3⟩ := hp
            refine ⟨_, by rw [Hd.val, run_sliceAt_slice c.w t _ _ _ _ hu', run_slice_lh c.w t hd.a hd.n hd.c hu' _ _ _ _ h1 h2 (by omega), hsz]; rfl, ?_⟩
            simp only [RelV]
            exact hcut _ _
          · cases h
        · cases h
      · cases h
    · cases h
  · cases h

end Eng
end Go.Proofs.YtkpplfghhciacaaDoor

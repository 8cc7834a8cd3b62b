/-
  slices.Sort at integers, by the kit's contract, as a function that is handed a row of its own. Conditions: none.
-/
import Derived.Shelf.Sort.Plain
import Derived.Shelf.Lay
import Derived.Ground.Names2Prog
import Derived.Sort.OwnSortedInts
import Derived.Test.YtmfdikjeijnlmaaEngW
import Derived.Test.YtmfdikjeijnlmaaProg
namespace Go.Proofs
open Go.Shelf
shelf_lay Lays.n189 Nm 189 at Try as Try.lays189
end Go.Proofs
namespace Go.Proofs.Ytmfdikjeijnlmaa
namespace Eng
open Go.RowKit

theorem ahead_rel {w0 : Base} {c : Cfg} (hr : Rel w0 c) : ∀ n : Nat, Rel w0 { c with w := Sort.ahead c.w n } ∧ Ext c { c with w := Sort.ahead c.w n }
  | 0 => ⟨hr, Ext.refl c⟩
  | n + 1 => by
    have h := ahead_rel hr n
    have h2 := drew_rel h.1
    exact ⟨h2.1, h.2.trans h2.2⟩

theorem alloc_rel {w0 : Base} {c : Cfg} (hr : Rel w0 c) (o : Obj) : Rel w0 { c with w := c.w.alloc o } ∧ Ext c { c with w := c.w.alloc o } := by
  have hx : Ext c { c with w := c.w.alloc o } := {
    size := by simp
    sub := fun _ _ h => h
    cells := fun b x h => World.cell?_of_block (w := c.w) (Below.heap_alloc _ _ _ (hr.bound b x h))
    len := Nat.le_refl _
    keep := fun r ob _ h => by
      cases ob with
      | dead => trivial
      | cells cs => exact ⟨⟨cs, h⟩, rfl⟩
      | vec t f xs =>
        refine ⟨f, xs, h, rfl, rfl, fun b n _ hrows => ?_⟩
        obtain ⟨ce, e, fz, h1, h2⟩ := hrows
        exact ⟨ce, e, fz, (Below.heap_alloc _ _ _ (Array.getElem?_eq_some_iff.1 h1).1).trans h1, h2⟩ }
  exact ⟨{ below := hr.below.alloc hr.below.size o, inj := hr.inj, fresh := hr.fresh,
           bound := fun b x h => by have := hr.bound b x h; simp only [World.size_alloc]; omega
           newA := hr.newA
           obj := fun r ob h => by
             cases ob with
             | dead => trivial
             | _ => exact OkOb.keep hx rfl (fun b hb => Below.heap_alloc _ _ _ (bl_lt hr (live_of h (by simp)) hb)) (fun _ _ _ h => h) (hr.obj r _ h) }, hx⟩

theorem grow_rel {w0 : Base} : ∀ (os : List Obj) {c : Cfg}, Rel w0 c → Rel w0 { c with w := Sort.grow c.w os.toArray } ∧ Ext c { c with w := Sort.grow c.w os.toArray }
  | [], c, hr => by
    have e : Sort.grow c.w ([] : List Obj).toArray = c.w := Sort.grow_empty _
    rw [e]; exact ⟨hr, Ext.refl c⟩
  | o :: os, c, hr => by
    have h1 := alloc_rel hr o
    have h2 := grow_rel os h1.1
    have e : Sort.grow c.w (o :: os).toArray = Sort.grow (c.w.alloc o) os.toArray := by
      rw [Sort.alloc_eq_grow, Sort.grow_grow]; congr 1; simp
    rw [e]; exact ⟨h2.1, h1.2.trans h2.2⟩

theorem mapBlock_setRow {w : World} {g : Nat} {ce : Array Value} {e : TypeId} {fr : Nat × Nat} (f : Array Value → Array Value) (h : w.heap[g]? = some (.cells ce e fr)) : Sort.mapBlock w g f = w.setRow g (f ce) := by
  unfold Sort.mapBlock World.setRow
  congr 1
  apply Array.ext_getElem?
  intro i
  rw [Array.getElem?_modify, Array.getElem?_modify]
  by_cases hi : g = i
  · subst hi
    rw [if_pos rfl, if_pos rfl, h]; rfl
  · rw [if_neg hi, if_neg hi]

/-- The integers in their order. -/
def srt (xs : List Int) : List Int := xs.mergeSort fun x y => decide (x ≤ y)
theorem srt_len (xs : List Int) : (srt xs).length = xs.length := (List.mergeSort_perm xs _).length_eq

def sortS : SemO := fun args st K => match args with
  | [.vec r] => match st[r]? with
    | some (.vec (.int .i64) 0 xs) => (xs.length ≠ 0 ∧ fits xs.length) ∧ K (.tup []) (st.set r (.vec (.int .i64) 0 (srt xs)))
    | _ => False
  | _ => False

theorem take_map {xs : List Int} {w : World} {A : Nat → Nat → Prop} {ce : Array Value} (hl : xs.length ≤ ce.size) (h : ∀ (i : Nat) (y : Int), xs[i]? = some y → RoV w A (.int .i64) y ((ce.toList.drop (i * 1)).take 1)) : ce.toList.take xs.length = xs.map (Value.int .i64) := by
  apply List.ext_getElem?
  intro i
  by_cases hi : i < xs.length
  · rw [List.getElem?_take_of_lt hi, List.getElem?_map, List.getElem?_eq_getElem hi]
    have h1 := h i _ (List.getElem?_eq_getElem hi)
    simp only [RoV, Nat.mul_one] at h1
    have h2 : (ce.toList.drop i)[0]? = some (Value.int .i64 xs[i]) := by
      have h3 : ((ce.toList.drop i).take 1)[0]? = some (Value.int .i64 xs[i]) := by rw [h1]; rfl
      rwa [List.getElem?_take_of_lt (by omega)] at h3
    rw [List.getElem?_drop, Nat.add_zero] at h2
    exact h2
  · rw [List.getElem?_eq_none (by simp; omega), List.getElem?_eq_none (by simp; omega)]

theorem putCells_get {xs : List Int} {ce : Array Value} {i : Nat} {y : Int} (hl : xs.length ≤ ce.size) (h : xs[i]? = some y) : (Sort.putCells (Value.int .i64) 0 xs.toArray ce)[i]? = some (Value.int .i64 y) := by
  obtain ⟨hi, hy⟩ := List.getElem?_eq_some_iff.mp h
  unfold Sort.putCells
  rw [Array.getElem?_mapIdx, Array.getElem?_eq_getElem (show i < ce.size by omega)]
  simp only [Option.map_some, Nat.zero_le, true_and, Nat.zero_add, List.size_toArray, Nat.sub_zero]
  rw [if_pos hi]
  simp [hi, hy]

open Go.Shelf in
theorem sortS_ok {P : Program} {ρ : Ren} (Ly : Lays.n189 P ρ) : SoundO P (ρ.f 189) sortS := by
  intro w0 c args us K hr ha hs
  unfold sortS at hs
  split at hs
  · next r =>
    split at hs
    · next xs hst =>
      obtain ⟨⟨hne, hfit⟩, hK⟩ := hs
      have ha' : ∃ u us', us.toList = u :: us' ∧ RelV c (.vec r) u ∧ us' = [] := by simpa only [RelVs] using ha
      obtain ⟨u, us', e1, hv, rfl⟩ := ha'
      have hus : us = #[u] := by
        apply Array.ext'
        rw [e1]
      obtain ⟨h0, hf, h | ⟨b, ce, e, cap, h1, h2, h3, h4, h5, h6⟩⟩ := hr.obj r _ hst
      · exact absurd (by rw [h.2]; rfl) hne
      · have hv' : (c.bl r = none ∧ u = .slice none 0 0) ∨ ∃ b cap, c.bl r = some b ∧ u = .slice (some ⟨b, 0, none⟩) xs.length cap ∧ Rows c.w b (cap * (Ty.int .i64).size) := by
          simpa only [RelV, hst] using hv
        rcases hv' with ⟨hb, _⟩ | ⟨b', cap', hb, hu, _⟩
        · rw [h1] at hb; cases hb
        · rw [h1] at hb; cases hb
          have hsz : xs.length ≤ ce.size := by rw [h3]; simpa [Ty.size] using h4
          have hH := holds_of_blockI h2 (take_map hsz h5)
          have hb : b < c.w.heap.size := (Array.getElem?_eq_some_iff.1 h2).1
          rw [hus, hu]
          refine (Any.slices_Sort_int Ly b 0 cap' xs c.w hH hb (Nat.lt_of_le_of_lt hfit (by decide))).mono ?_
          rintro en w' ⟨rfl, n, os, rfl⟩
          obtain ⟨r1, x1⟩ := ahead_rel hr n
          have e2 : Sort.putRow (Value.int .i64) (Sort.ahead c.w n) b 0 (srt xs).toArray = (Sort.ahead c.w n).setRow b (Sort.putCells (Value.int .i64) 0 (srt xs).toArray ce) := mapBlock_setRow (w := Sort.ahead c.w n) _ h2
          have hlen : (srt xs).length ≤ ce.size := Nat.le_trans (Nat.le_of_eq (srt_len xs)) hsz
          have hsize : (Sort.putCells (Value.int .i64) 0 (srt xs).toArray ce).size = ce.size := by simp [Sort.putCells]
          obtain ⟨r2, x2⟩ := put_rel r1 (r := r) (b := b) (ce := Sort.putCells (Value.int .i64) 0 (srt xs).toArray ce) (ob := .vec (.int .i64) 0 (srt xs)) hst (by simp) h1 h2 (fun o ho => absurd ho (h6 o (by omega)))
            ⟨0, xs, hst, srt_len xs, rfl, fun b' m hb' hrows => by
              have hb2 : b' = b := by
                have : c.bl r = some b' := hb'
                rw [h1] at this; exact (Option.some.inj this).symm
              subst hb2
              obtain ⟨ce', e', fz, g1, g2⟩ := hrows
              have g3 : c.w.heap[b']? = some (.cells ce' e' fz) := g1
              rw [h2] at g3; cases g3
              exact ⟨_, e, (0, 0), setRow_heap _ _ _ _ _ _ h2, hsize.trans g2⟩⟩
            ⟨h0, Nat.zero_le _, .inr ⟨b, _, e, cap, h1, setRow_heap _ _ _ _ _ _ h2, hsize.trans h3, Nat.le_trans (Nat.le_of_eq (srt_len xs)) h4, fun i y hy => by
              have g := putCells_get hlen hy
              simp only [RoV, Ty.size, Nat.mul_one]
              rw [List.drop_eq_getElem_cons (by rw [Array.length_toList]; exact (Array.getElem?_eq_some_iff.1 g).1)]
              have g2 := (Array.getElem?_eq_some_iff.1 g).2
              simp only [List.take_succ_cons, List.take_zero, Array.getElem_toList]
              exact congrArg (fun z => [z]) g2, h6⟩⟩
          obtain ⟨r3, x3⟩ := grow_rel os.toList r2
          refine ⟨_, .tup [], _, rfl, ?_, r3, x1.trans (x2.trans x3), ⟨#[], rfl, rfl⟩, hK⟩
          exact congr (congrArg Sort.grow e2.symm) (by simp)
    · exact hs.elim
  · exact hs.elim

end Eng
end Go.Proofs.Ytmfdikjeijnlmaa

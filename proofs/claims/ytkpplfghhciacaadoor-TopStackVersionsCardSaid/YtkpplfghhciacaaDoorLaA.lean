/-
  treepatch.ValidPath, strings.Compare and strings.IndexByte as functions that are handed data. Conditions: none.
-/
import Derived.Test.YtkpplfghhciacaaDoorLaS
import Derived.Test.YtkpplfghhciacaaDoorEngW
set_option linter.unusedVariables false
set_option linter.unusedSimpArgs false
namespace Go.Proofs.YtkpplfghhciacaaDoor
namespace La
open Go.RowKit Go.Shelf Eng

attribute [local go_sem] Oper.semAt_some wide_fn wide_depth wide_in_fn wide_in_depth

/-- A name that can't be a part. -/
def bad (p : ByteArray) : Bool := p.toList.isEmpty || p.toList == [46] || p.toList == [46, 46]
def lets (p : ByteArray) : Bool := p.data.toList.all fun b => letter b.toNat
def okp (p : ByteArray) : Bool := !bad p && lets p

def mI (n : Nat) : Value → Nat
  | .int _ i => n - i.toNat
  | _ => 0

theorem pts_le {c : Nat} : ∀ (n : Nat) (s : ByteArray), s.size ≤ c → ∀ x ∈ pts n s, x.size ≤ c
  | 0, s, h, x, hx => by simp only [pts, List.mem_singleton] at hx; rw [hx]; exact h
  | n + 1, s, h, x, hx => by
    simp only [pts] at hx
    split at hx
    · simp only [List.mem_singleton] at hx; rw [hx]; exact h
    · rcases List.mem_cons.1 hx with rfl | hx
      · simp; omega
      · exact pts_le n _ (by simp; omega) x hx

theorem parts_le {path x : ByteArray} (hp : path.size ≤ 60) (hx : x ∈ parts path) : x.size ≤ 60 := pts_le _ _ hp x hx

/-- What ValidPath answers. -/
def vp_R (path : ByteArray) : Bool := decide (path.size ≤ 60) && (parts path).all okp

theorem heap_old (w : World) (o : Obj) {k : Nat} {x : Obj} (h : w.heap[k]? = some x) : (w.alloc o).heap[k]? = some x :=
  (Below.heap_alloc w o k (Array.getElem?_eq_some_iff.1 h).1).trans h

theorem OwnFrom.const {β : Type} {B : Nat} (P : β → Prop) : OwnFrom B (fun s _ => P s) := fun _ _ _ _ h _ _ => h

theorem OwnFrom.cell {β : Type} (B n : Nat) (v : Value) (t : TypeId) : OwnFrom B (fun (_ : β) W => W.heap[n]? = some (.cells #[v] t (0, 0))) := by
  rintro s W W' row h hg hr
  exact (grownBy_keeps_cells hg (fun r e => (hr r e).2) h rfl).trans h

theorem below_put {B : Nat} {a W : World} (h : Below B a W) {D : Nat} {o : Obj} (o' : Obj) (hD : W.heap[D]? = some o) (hBD : B ≤ D) : Below B a (W.putObj D o') :=
  h.grown (grownBy_putObj' W D o') (by have := (Array.getElem?_eq_some_iff.1 hD).1; omega) (fun k e => by cases e; exact hBD)

set_option maxRecDepth 100000 in
set_option maxHeartbeats 4000000 in
theorem vp_calls (path : ByteArray) (w : World) : Calls Tryd.prog 42 #[.string path] w fun e w' => e = .returned (.bool (vp_R path)) ∧ Below w.heap.size w w' := by
  refine (callsIn_wide (n := 1)).1 (callsIn_of_wp_marks Tryd.func42 rfl trivial ?_ rfl)
  simp only [Tryd.ntmps42, List.size_toArray, List.length_cons, List.length_nil, Nat.reduceAdd, Nat.reduceSub, Array.replicate_succ, Array.replicate_zero, List.push_toArray, List.append_toArray, List.nil_append, List.cons_append]
  by_cases hsz : path.size ≤ 60
  · have hR : vp_R path = (parts path).all okp := by unfold vp_R; rw [decide_eq_true hsz]; rfl
    rw [hR]
    gi_wp2_with (gi_at_call 59; refine CallsIn.mono (callsIn_wide.2 (SplitSeq_calls _ _)) ?_; rintro e w' ⟨rfl, rfl⟩)
    generalize hW : (((w.alloc (Obj.cells #[Value.bool false] 4)).alloc (Obj.cells #[Value.string path] 9)).alloc (Obj.cells #[Value.string ⟨#[47]⟩] 9)).alloc (Obj.cells #[Value.int .i64 0] 3) = W
    have sW : W.heap.size = w.heap.size + 4 := by rw [← hW]; simp
    have hB : Below w.heap.size w W := by rw [← hW]; exact ((((Below.refl _ w).alloc (Nat.le_refl _) _).alloc (by simp) _).alloc (by simp; omega) _).alloc (by simp; omega) _
    have b0 : W.heap[w.heap.size]? = some (.cells #[.bool false] 4 (0, 0)) := by rw [← hW]; exact heap_old _ _ (heap_old _ _ (heap_old _ _ (World.alloc_heap_new w _)))
    have b1 : W.heap[w.heap.size + 1]? = some (.cells #[.string path] 9 (0, 0)) := by
      rw [← hW]; refine heap_old _ _ (heap_old _ _ ?_)
      have := World.alloc_heap_new (w.alloc (Obj.cells #[Value.bool false] 4)) (Obj.cells #[Value.string path] 9)
      rwa [World.size_alloc] at this
    have b2 : W.heap[w.heap.size + 1 + 1]? = some (.cells #[.string ⟨#[47]⟩] 9 (0, 0)) := by
      rw [← hW]; refine heap_old _ _ ?_
      have := World.alloc_heap_new ((w.alloc (Obj.cells #[Value.bool false] 4)).alloc (Obj.cells #[Value.string path] 9)) (Obj.cells #[Value.string ⟨#[47]⟩] 9)
      rwa [World.size_alloc, World.size_alloc] at this
    have b3 : W.heap[w.heap.size + 1 + 2]? = some (.cells #[.int .i64 0] 3 (0, 0)) := by
      rw [← hW]
      have := World.alloc_heap_new (((w.alloc (Obj.cells #[Value.bool false] 4)).alloc (Obj.cells #[Value.string path] 9)).alloc (Obj.cells #[Value.string ⟨#[47]⟩] 9)) (Obj.cells #[Value.int .i64 0] 3)
      rwa [World.size_alloc, World.size_alloc, World.size_alloc] at this
    have hM : Mem (w.heap.size + 1) path W := ⟨b1, b2, b3⟩
    refine range_w (c := ⟨w.heap.size + 1, 0, none⟩) (by rfl) (enters_of Tryd.func74 (by kernel_rfl) rfl) (by show w.heap.size + 1 < W.heap.size; omega) (it_seq hsz hM) Kp.trans (fun X l o o' hl ho _ _ => ?keep) (fun x => rfl)
      (fun pre X => (pre.all fun x => okp x.1) = true ∧ X.heap[w.heap.size]? = some (.cells #[.bool false] 4 (0, 0)) ∧ Below w.heap.size w X)
      (fun k pre X => (k = .ret ∧ (pre.all fun x => okp x.1) = false) ∧ X.heap[w.heap.size]? = some (.cells #[.bool false] 4 (0, 0)) ∧ Below w.heap.size w X)
      (OwnFrom.and (OwnFrom.const _) (OwnFrom.and (OwnFrom.cell _ _ _ _) (ownFrom_below (Nat.le_refl _) (by omega))))
      (fun k => OwnFrom.and (OwnFrom.const _) (OwnFrom.and (OwnFrom.cell _ _ _ _) (ownFrom_below (Nat.le_refl _) (by omega))))
      (fun s X v h => ⟨h.1, (Below.heap_setCell X ⟨w.heap.size + 1, 0, none⟩ v _ (by simp)).trans h.2.1, h.2.2.setCell (p := ⟨w.heap.size + 1, 0, none⟩) (by simp) v⟩)
      ⟨rfl, b0, hB⟩ ?act ?assign ?body ?done ?stop
    case keep =>
      refine ⟨by simp, fun b hb => World.putObj_heap_other (fun e => ?_)⟩
      subst e
      rcases hb with h | h | h <;> omega
    case assign =>
      intro l x X K hK
      gi_wp2
      exact hK
    case body =>
      rintro l pre ⟨x, hx⟩ X ⟨h1, h2, h3⟩ _
      obtain ⟨d0, d1⟩ := one_cell h2
      have hret : okp x = false → ∀ a', ownPostK (Kp (Sk (w.heap.size + 1))) (fun (pre : List (Pt path)) X => (pre.all fun x => okp x.1) = true ∧ X.heap[w.heap.size]? = some (.cells #[.bool false] 4 (0, 0)) ∧ Below w.heap.size w X)
          (fun k pre X => (k = .ret ∧ (pre.all fun x => okp x.1) = false) ∧ X.heap[w.heap.size]? = some (.cells #[.bool false] 4 (0, 0)) ∧ Below w.heap.size w X) (pre ++ [⟨x, hx⟩]) X .ret a' (X.setCell ⟨w.heap.size, 0, none⟩ (.bool false)) :=
        fun ho a' => ⟨KeepsOthers.setCell _ _ _, ⟨rfl, by simp [ho]⟩, set_one h2 _, h3.setCell (Nat.le_refl _) _⟩
      by_cases hb : bad x = true
      · gi_wp2
        all_goals first
          | exact hret (by unfold okp; rw [hb]; rfl) _
          | (exfalso; revert hb; simp_all [bad])
      · have hb' : bad x = false := by simpa using hb
        have hx3 : x.toList.isEmpty = false ∧ (x.toList == [46]) = false ∧ (x.toList == [46, 46]) = false := by
          unfold bad at hb'; simpa only [Bool.or_eq_false_iff, and_assoc] using hb'
        obtain ⟨q1, q2, q3⟩ := hx3
        gi_wp2
        gi_loopw [23] (fun p wr => ∃ k : Nat, p = .int .i64 k ∧ k ≤ x.size ∧ wr = X ∧ ((x.data.toList.take k).all fun b => letter b.toNat) = true) (fun p _ => mI x.size p)
        case atStart => exact ⟨0, rfl, Nat.zero_le _, rfl, rfl⟩
        case round =>
          obtain ⟨k, rfl, hk, rfl, hall⟩ := hrel
          have hxs : x.size ≤ 60 := parts_le hsz hx
          by_cases hlt : k < x.size
          · have hlt2 : k < x.data.toList.length := by simpa using hlt
            have hget : x.data.toList[k] = x[k] := by simp; rfl
            cases hl : letter (x[k].toNat : Int) with
            | true =>
              gi_wp2_with (gi_at_call 60; refine CallsIn.mono (callsIn_wide.2 (letter_calls _ _)) ?_; rintro e w' ⟨rfl, rfl⟩)
              refine ⟨⟨k + 1, by simp, hlt, trivial, ?_⟩, ?_⟩
              · rw [List.take_succ_eq_append_getElem hlt2, List.all_append, hall, hget]
                simp [hl]
              · show x.size - (k + 1) < x.size - k
                omega
            | false =>
              have ho : okp x = false := by
                unfold okp lets
                rw [hb', Bool.not_false, Bool.true_and, List.all_eq_false]
                exact ⟨x[k], hget ▸ List.getElem_mem hlt2, by simp [hl]⟩
              gi_wp2_with (gi_at_call 60; refine CallsIn.mono (callsIn_wide.2 (letter_calls _ _)) ?_; rintro e w' ⟨rfl, rfl⟩)
              all_goals first
                | exact hret ho _
                | exact absurd hl (by simp_all)
          · gi_wp2
            obtain rfl : k = x.size := by omega
            have ho : okp x = true := by
              unfold okp lets
              rw [hb', Bool.not_false, Bool.true_and]
              rw [List.take_of_length_le (by simp)] at hall
              exact hall
            exact ⟨KeepsOthers.refl _, ⟨Nat.le_refl _, fun _ _ => rfl⟩, by simp [List.all_append, h1, ho], h2, h3⟩
    case done =>
      rintro D xs X hD hS ⟨h1, h2, h3⟩ hd
      obtain ⟨d0, d1⟩ := one_cell h2
      gi_wp2
      have hd' := (Below.heap_setCell X ⟨w.heap.size, 0, none⟩ (.bool true) D (by show D ≠ w.heap.size; omega)).trans hd
      refine ⟨by simp, .inl ⟨_, _, rfl, run_takeDeferred hd', ?_⟩⟩
      have hall : (parts path).all okp = true := by rw [← hS, List.all_map]; exact h1
      rw [hall]
      have g0 := (one_cell ((World.putObj_heap_other (w := X.setCell ⟨w.heap.size, 0, none⟩ (.bool true)) (o := .deferred none) (show w.heap.size ≠ D by omega)).trans (set_one h2 (.bool true)))).1
      refine ⟨_, ?_, rfl, below_put (h3.setCell (p := ⟨w.heap.size, 0, none⟩) (Nat.le_refl _) _) _ hd' (by omega)⟩
      simp [results, Tryd.f42, go_sem, g0]
    case stop =>
      rintro D c pre X hD hp ⟨⟨rfl, h1⟩, h2, h3⟩ hd
      gi_wp2
      refine ⟨by simp, .inl ⟨_, _, rfl, run_takeDeferred hd, ?_⟩⟩
      have hall : (parts path).all okp = false := by
        obtain ⟨r, hr⟩ := hp
        rw [← hr, List.all_append, List.all_map]
        have : (List.all pre (okp ∘ Subtype.val)) = false := h1
        rw [this]; rfl
      rw [hall]
      have g0 := (one_cell ((World.putObj_heap_other (w := X) (o := .deferred none) (show w.heap.size ≠ D by omega)).trans h2)).1
      refine ⟨_, ?_, rfl, below_put h3 _ hd (by omega)⟩
      simp [results, Tryd.f42, go_sem, g0]
  · have hR : vp_R path = false := by unfold vp_R; rw [decide_eq_false hsz]; rfl
    rw [hR]
    obtain ⟨d0, d1⟩ := one_cell (World.alloc_heap_new w (Obj.cells #[Value.bool false] 4))
    gi_wp2
    have g0 := (one_cell (set_one (World.alloc_heap_new w (Obj.cells #[Value.bool false] 4)) (.bool false))).1
    refine ⟨_, ?_, rfl, (Below.refl _ w).alloc (Nat.le_refl _) _⟩
    simp [results, Tryd.f42, go_sem, g0]

theorem compare_calls (a b : ByteArray) (w : World) : Calls Tryd.prog 46 #[.string a, .string b] w fun e w' => e = .returned (.int .i64 (Lib.compareBytes a.data.toList b.data.toList)) ∧ w' = w := Any.strings_Compare Tryd.lays106 a b w

theorem indexByte_calls (s : ByteArray) (c : Int) (w : World) : Calls Tryd.prog 58 #[.string s, .int .u8 c] w fun e w' => e = .returned (.int .i64 (Lib.indexByte s.data.toList c.toNat.toUInt8)) ∧ w' = w := Any.strings_IndexByte Tryd.lays137 s c w

def cmp_R (a b : ByteArray) : Int := Lib.compareBytes a.data.toList b.data.toList
def idx_R (s : ByteArray) (c : Int) : Int := Lib.indexByte s.data.toList c.toNat.toUInt8

/-- What such a function leaves. -/
theorem done_of {w w' : World} {A : Nat → Nat → Prop} (hA : ∀ b o, A b o → b < w.heap.size) (hB : Below w.heap.size w w') : Rel ⟨w, A, fun _ => False⟩ (cfg0 w' A) ∧ Ext (cfg0 w A) (cfg0 w' A) := by
  refine ⟨{
    below := ⟨hB.mono (Nat.zero_le _), fun k hk => hB.block k ?_⟩
    inj := fun r r' b hl => by simp [live, cfg0] at hl
    fresh := fun r b hl => by simp [live, cfg0] at hl
    bound := fun b o h => Nat.lt_of_lt_of_le (hA b o h) hB.size
    newA := fun b o h => .inl h
    obj := fun r ob h => by simp [cfg0] at h
    pl := PoolOk.none fun r m h => by simp [cfg0] at h }, {
    size := hB.size
    sub := fun _ _ h => h
    cells := fun b o h => World.cell?_of_block (a := ⟨b, o, none⟩) (hB.block b (hA b o h))
    len := Nat.le_refl _
    keep := fun r ob hr => by simp [cfg0] at hr }⟩
  rcases Nat.lt_or_ge k w.heap.size with g | g
  · exact g
  · exact absurd (.inl g) hk

theorem int_of {w : World} {A : Nat → Nat → Prop} {k : IntKind} {v : V} {rest : List V} {us : List Value} {ss : List Sh} (hf : fitL (.int k :: ss) (v :: rest) = true) (hr : RelVs (cfg0 w A) (v :: rest) us) :
    ∃ us', us = .int k (gI v) :: us' ∧ RelVs (cfg0 w A) rest us' := by
  have hf1 : fitV (.int k) v = true := by
    simp only [fitL, Bool.and_eq_true] at hf
    exact hf.1
  have e := fitV_eq _ _ hf1
  rw [e] at hr
  simp only [mkV, RelVs, RelV] at hr
  obtain ⟨u, us', hus, rfl, h4⟩ := hr
  exact ⟨us', hus, h4⟩

theorem str_of {w : World} {A : Nat → Nat → Prop} {v : V} {rest : List V} {us : List Value} {ss : List Sh} (hf : fitL (.str :: ss) (v :: rest) = true) (hr : RelVs (cfg0 w A) (v :: rest) us) :
    ∃ us', us = .string (gS v) :: us' ∧ RelVs (cfg0 w A) rest us' := by
  have hf1 : fitV .str v = true := by
    simp only [fitL, Bool.and_eq_true] at hf
    exact hf.1
  have e := fitV_eq _ _ hf1
  rw [e] at hr
  simp only [mkV, RelVs, RelV] at hr
  obtain ⟨u, us', hus, rfl, h4⟩ := hr
  exact ⟨us', hus, h4⟩

theorem fitL_tail {s : Sh} {ss : List Sh} {v : V} {vs : List V} (h : fitL (s :: ss) (v :: vs) = true) : fitL ss vs = true := by
  simp only [fitL, Bool.and_eq_true] at h
  exact h.2

theorem fitL_nil {vs : List V} (h : fitL [] vs = true) : vs = [] := by
  cases vs with
  | nil => rfl
  | cons v vs => simp [fitL] at h

theorem fitL_cons {s : Sh} {ss : List Sh} {vs : List V} (h : fitL (s :: ss) vs = true) : ∃ v r, vs = v :: r := by
  cases vs with
  | nil => simp [fitL] at h
  | cons v r => exact ⟨v, r, rfl⟩

theorem vp_ok : SoundFn Tryd.prog 42 (fun args K => argF [.str] args fun a => K (.x (.bool (vp_R (gS (a.getD 0 .any))))) []) := by
  intro w A args us K hA ha hs
  unfold argF at hs
  cases hf : fitL [.str] (nzL [.str] args) with
  | false => rw [hf] at hs; exact hs.elim
  | true =>
    rw [hf] at hs
    simp only [cond_true] at hs
    have hr := nzL_rel [.str] args _ ha
    generalize nzL [.str] args = vs at hf hr hs
    obtain ⟨v0, r0, rfl⟩ := fitL_cons hf
    obtain ⟨us1, e1, hr1⟩ := str_of hf hr
    obtain rfl := fitL_nil (fitL_tail hf)
    simp only [RelVs] at hr1
    have eus : us = #[.string (gS v0)] := by apply Array.ext'; rw [e1, hr1]
    rw [eus]
    refine (vp_calls (gS v0) w).mono ?_
    rintro e w' ⟨rfl, hB⟩
    obtain ⟨g1, g2⟩ := done_of hA hB
    exact ⟨_, V.x (.bool (vp_R (gS v0))), _, rfl, rfl, g1, g2, rfl, hs⟩

theorem cmp_ok : SoundFn Tryd.prog 46 (fun args K => argF [.str, .str] args fun a => K (.x (.int .i64 (cmp_R (gS (a.getD 0 .any)) (gS (a.getD 1 .any))))) []) := by
  intro w A args us K hA ha hs
  unfold argF at hs
  cases hf : fitL [.str, .str] (nzL [.str, .str] args) with
  | false => rw [hf] at hs; exact hs.elim
  | true =>
    rw [hf] at hs
    simp only [cond_true] at hs
    have hr := nzL_rel [.str, .str] args _ ha
    generalize nzL [.str, .str] args = vs at hf hr hs
    obtain ⟨v0, r0, rfl⟩ := fitL_cons hf
    obtain ⟨us1, e1, hr1⟩ := str_of hf hr
    have hf1 := fitL_tail hf
    obtain ⟨v1, r1, rfl⟩ := fitL_cons hf1
    obtain ⟨us2, e2, hr2⟩ := str_of hf1 hr1
    obtain rfl := fitL_nil (fitL_tail hf1)
    simp only [RelVs] at hr2
    have eus : us = #[.string (gS v0), .string (gS v1)] := by apply Array.ext'; rw [e1, e2, hr2]
    rw [eus]
    refine (compare_calls (gS v0) (gS v1) w).mono ?_
    rintro e w' ⟨rfl, rfl⟩
    obtain ⟨g1, g2⟩ := done_of hA (Below.refl _ w')
    exact ⟨_, V.x (.int .i64 (cmp_R (gS v0) (gS v1))), _, rfl, rfl, g1, g2, rfl, hs⟩

theorem idx_ok : SoundFn Tryd.prog 58 (fun args K => argF [.str, .int .u8] args fun a => K (.x (.int .i64 (idx_R (gS (a.getD 0 .any)) (gI (a.getD 1 .any))))) []) := by
  intro w A args us K hA ha hs
  unfold argF at hs
  cases hf : fitL [.str, .int .u8] (nzL [.str, .int .u8] args) with
  | false => rw [hf] at hs; exact hs.elim
  | true =>
    rw [hf] at hs
    simp only [cond_true] at hs
    have hr := nzL_rel [.str, .int .u8] args _ ha
    generalize nzL [.str, .int .u8] args = vs at hf hr hs
    obtain ⟨v0, r0, rfl⟩ := fitL_cons hf
    obtain ⟨us1, e1, hr1⟩ := str_of hf hr
    have hf1 := fitL_tail hf
    obtain ⟨v1, r1, rfl⟩ := fitL_cons hf1
    obtain ⟨us2, e2, hr2⟩ := int_of hf1 hr1
    obtain rfl := fitL_nil (fitL_tail hf1)
    simp only [RelVs] at hr2
    have eus : us = #[.string (gS v0), .int .u8 (gI v1)] := by apply Array.ext'; rw [e1, e2, hr2]
    rw [eus]
    refine (indexByte_calls (gS v0) (gI v1) w).mono ?_
    rintro e w' ⟨rfl, rfl⟩
    obtain ⟨g1, g2⟩ := done_of hA (Below.refl _ w')
    exact ⟨_, V.x (.int .i64 (idx_R (gS v0) (gI v1))), _, rfl, rfl, g1, g2, rfl, hs⟩

end La
namespace Eng
theorem argF_mono {ss : List Sh} {args : List V} {k k' : List V → Prop} (hk : ∀ a, k a → k' a) (h : argF ss args k) : argF ss args k' := by
  unfold argF at *
  cases hf : fitL ss (nzL ss args) with
  | false => rw [hf] at h; exact h.elim
  | true => rw [hf] at h; exact hk _ h
end Eng
end Go.Proofs.YtkpplfghhciacaaDoor

/-
  Rows whose elements hold headers of integer slices, told as plain data again. Conditions: none.
-/
import Derived.Test.YtkpplfghhciacaaDoorEngGb
set_option linter.unusedVariables false
set_option linter.unusedSimpArgs false
namespace Go.Proofs.YtkpplfghhciacaaDoor
namespace Eng
open Go.RowKit

def fzT : Ty → Ty
  | .hnd => .slice (.int .i64)
  | .pair a b => .pair (fzT a) (fzT b)
  | t => t

def fz (m : Pool) : (t : Ty) → t.den → (fzT t).den
  | .hnd, h => h.get m
  | .pair a b, p => (fz m a p.1, fz m b p.2)
  | .int _, n => n
  | .bool, b => b
  | .str, s => s
  | .unit, u => u
  | .slice _, xs => xs

/-- The headers lie in the pool. -/
def okRow (m : Pool) : (t : Ty) → t.den → Prop
  | .hnd, h => h.ok m
  | .pair a b, p => okRow m a p.1 ∧ okRow m b p.2
  | .int _, _ => True
  | .bool, _ => True
  | .str, _ => True
  | .unit, _ => True
  | .slice _, _ => True

def okRows (m : Pool) (t : Ty) (xs : List t.den) : Prop := ∀ x, x ∈ xs → okRow m t x

theorem fzT_size : ∀ (t : Ty), (fzT t).size = t.size
  | .hnd | .int _ | .bool | .str | .unit | .slice _ => rfl
  | .pair a b => by simp only [fzT, Ty.size, fzT_size a, fzT_size b]

/-- What has been read is not written any more: the pool's rows. -/
def Apool (c : Cfg) (m : Pool) (A' : Nat → Nat → Prop) : Prop := (∀ b o, c.A b o → A' b o) ∧ ∀ b row o, (b, row) ∈ m → o < row.1.length → A' b o

theorem hd_rel {w0 : Base} {c : Cfg} (hr : Rel w0 c) {p : Nat} {m : Pool} (hm : poolAt 0 c.st = some (p, m)) {A' : Nat → Nat → Prop} (hA : Apool c m A') {h : Hd} (hk : h.ok m) :
    RoV c.w A' (.slice (.int .i64)) (h.get m) [h.val] := by
  have hl := Hd.get_len hk
  have hl' : List.length (α := (Ty.int .i64).den) (h.get m) = h.n := hl
  have hv : ∀ a, h.a = a → h.val = .slice a h.n h.c := fun a e => by rw [Hd.val, e]
  show SlV _ _ _ _ _ _
  obtain ⟨h1, h2 | ⟨b, o, row, h2, h3, h4, h5⟩⟩ := hk
  · have hn : h.n = 0 := by omega
    have hg : h.get m = [] := List.length_eq_zero_iff.1 (by omega)
    cases ha : h.a with
    | none => exact .inl ⟨by rw [hv _ ha, hn, h2], hg⟩
    | some a =>
      obtain ⟨b, o, sp⟩ := a
      refine .inr ⟨b, o, sp, 0, by rw [hv _ ha, hl', h2], fun e => absurd hg e, by rw [hl']; omega, fun i y hy => ?_⟩
      have := (List.getElem?_eq_some_iff.1 hy).1
      omega
  · refine .inr ⟨b, o, none, h.c, by rw [hv _ h2, hl'], fun _ => rfl, by rw [hl']; exact h1, fun i y hy => ⟨[.int .i64 y], rfl, rfl, fun j u hj => ?_⟩⟩
    have hi : i < h.n := by rw [← hl']; exact (List.getElem?_eq_some_iff.1 hy).1
    cases j with
    | succ j => simp at hj
    | zero =>
      simp only [List.getElem?_cons_zero, Option.some.injEq] at hj
      subst hj
      have hlt : o + i < row.1.length := by omega
      simp only [Ty.size, Nat.mul_one, Nat.add_zero]
      refine ⟨?_, hA.2 b row _ (pfind_mem h3) hlt⟩
      rw [pool_cell hr hm h3 hlt]
      have hy' : (h.get m)[i]? = some y := hy
      unfold Hd.get at hy'
      rw [h2] at hy'
      simp only [prow, h3, List.getElem?_take, if_pos hi, List.getElem?_drop, List.getElem?_eq_getElem hlt, Option.some.injEq] at hy'
      have : row.1.getD (o + i) 0 = y := by
        rw [List.getD_eq_getElem?_getD, List.getElem?_eq_getElem hlt, hy']; rfl
      rw [this]

theorem fz_rel {w0 : Base} {c : Cfg} (hr : Rel w0 c) {p : Nat} {m : Pool} (hm : poolAt 0 c.st = some (p, m)) {A' : Nat → Nat → Prop} (hA : Apool c m A') : ∀ {t : Ty} {y : t.den} {us : List Value}, okRow m t y → RoV c.w c.A t y us → RoV c.w A' (fzT t) (fz m t y) us
  | .hnd, y, us, hk, h => by
    simp only [RoV] at h
    subst h
    exact hd_rel hr hm hA hk
  | .pair a b, y, us, hk, h => by
    obtain ⟨us1, us2, e, h1, h2⟩ := h
    exact ⟨us1, us2, e, fz_rel hr hm hA hk.1 h1, fz_rel hr hm hA hk.2 h2⟩
  | .int _, y, us, _, h => h
  | .bool, y, us, _, h => h
  | .str, y, us, _, h => h
  | .unit, y, us, _, h => h
  | .slice e, y, us, _, h => RoV.ext hA.1 (fun _ _ _ => rfl) h

/-- A list that is read, its elements told otherwise. -/
theorem SlV.map {w : World} {A A' : Nat → Nat → Prop} {e e' : Ty} {R : e.den → List Value → Prop} {R' : e'.den → List Value → Prop} {f : e.den → e'.den} (hs : e'.size = e.size) (hA : ∀ b o, A b o → A' b o) {xs : List e.den}
    (hf : ∀ x us, x ∈ xs → R x us → R' (f x) us) {us : List Value} (h : SlV w A e R xs us) : SlV w A' e' R' (xs.map f) us := by
  rcases h with ⟨h1, h2⟩ | ⟨b, o, sp, cap, h1, h2, h3, h4⟩
  · exact .inl ⟨h1, by rw [h2]; rfl⟩
  · refine .inr ⟨b, o, sp, cap, by rw [List.length_map]; exact h1, fun hne => h2 (fun e => hne (by rw [e]; rfl)), by rw [List.length_map]; exact h3, fun i y hy => ?_⟩
    rw [List.getElem?_map] at hy
    cases hx : xs[i]? with
    | none => rw [hx] at hy; cases hy
    | some x =>
      rw [hx] at hy
      simp only [Option.map_some, Option.some.injEq] at hy
      subst hy
      obtain ⟨cs, g1, g2, g3⟩ := h4 i x hx
      exact ⟨cs, by rw [hs]; exact g1, hf x cs (List.mem_of_getElem? hx) g2, fun j u hj => by rw [hs]; exact ⟨(g3 j u hj).1, hA _ _ (g3 j u hj).2⟩⟩

/-- An object where the pool is laid to rest. -/
def stl (m : Pool) : Ob → Ob
  | .vec t f xs => if hasH t = true then .vec (fzT t) f (xs.map (fz m t)) else .vec t f xs
  | .pool _ => .dead
  | ob => ob

def condS (m : Pool) : List Ob → List Prop
  | [] => []
  | .vec t _ xs :: r => if hasH t = true then okRows m t xs :: condS m r else condS m r
  | _ :: r => condS m r

def andL : List Prop → Prop → Prop
  | [], q => q
  | p :: ps, q => p ∧ andL ps q

theorem andL_out : ∀ {l : List Prop} {q : Prop}, andL l q → (∀ p, p ∈ l → p) ∧ q
  | [], q, h => ⟨fun p hp => by simp at hp, h⟩
  | p :: l, q, h => by
    obtain ⟨h1, h2⟩ := h
    obtain ⟨h3, h4⟩ := andL_out h2
    exact ⟨fun p' hp => by
      rcases List.mem_cons.1 hp with rfl | hp
      · exact h1
      · exact h3 p' hp, h4⟩

theorem condS_get {m : Pool} : ∀ {st : List Ob} {r : Nat} {t : Ty} {f : Nat} {xs : List t.den}, (∀ p, p ∈ condS m st → p) → st[r]? = some (.vec t f xs) → hasH t = true → okRows m t xs
  | ob :: st, 0, t, f, xs, h, hr, ht => by
    simp only [List.getElem?_cons_zero, Option.some.injEq] at hr
    subst hr
    simp only [condS, if_pos ht] at h
    exact h _ (by simp)
  | ob :: st, r + 1, t, f, xs, h, hr, ht => by
    refine condS_get (st := st) (r := r) (fun p hp => h p ?_) (by simpa using hr) ht
    cases ob with
    | vec t' f' xs' =>
      simp only [condS]
      split
      · exact List.mem_cons_of_mem _ hp
      · exact hp
    | _ => simp only [condS]; exact hp

def noHs : Nat → List Ob → Bool
  | 0, _ => true
  | _, [] => true
  | k + 1, .vec t _ _ :: r => !(hasH t) && noHs k r
  | k + 1, _ :: r => noHs k r

theorem noHs_get : ∀ {k : Nat} {st : List Ob} {r : Nat} {t : Ty} {f : Nat} {xs : List t.den}, noHs k st = true → r < k → st[r]? = some (.vec t f xs) → hasH t = false
  | k + 1, ob :: st, 0, t, f, xs, h, _, hr => by
    simp only [List.getElem?_cons_zero, Option.some.injEq] at hr
    subst hr
    simp only [noHs, Bool.and_eq_true] at h
    simpa using h.1
  | k + 1, ob :: st, r + 1, t, f, xs, h, hk, hr => by
    refine noHs_get (k := k) (st := st) (r := r) ?_ (by omega) (by simpa using hr)
    cases ob with
    | vec t' f' xs' => simp only [noHs, Bool.and_eq_true] at h; exact h.2
    | _ => simpa only [noHs] using h

/-- The pool is laid to rest, and its rows are not written any more; the first k objects do not lean on it. -/
def settleP (k : Nat) (st : List Ob) (K : List Ob → Prop) : Prop := match poolAt 0 st with
  | some (_, m) => bif noHs k st then andL (condS m st) (K (st.map (stl m))) else False
  | none => K st

def stlC (c : Cfg) (m : Pool) : Cfg := { c with st := c.st.map (stl m), A := fun b o => c.A b o ∨ ∃ row, (b, row) ∈ m ∧ o < row.1.length }

theorem stlC_get {c : Cfg} {m : Pool} {r : Nat} {ob : Ob} (h : c.st[r]? = some ob) : (stlC c m).st[r]? = some (stl m ob) := by
  simp only [stlC, List.getElem?_map, h, Option.map_some]

mutual
theorem RelV.stl {c : Cfg} {m : Pool} : ∀ (v : V) (u : Value), RelV c v u → RelV (stlC c m) v u
  | .any, _, _ => by simp only [RelV]
  | .x v, u, hv => by simpa only [RelV] using hv
  | .ro t xs, u, hv => by
    simp only [RelV] at *
    exact RoV.ext (fun _ _ h => .inl h) (fun _ _ _ => rfl) hv
  | .rc cs j, u, hv => by
    simp only [RelV] at *
    obtain ⟨b, o, e, hc⟩ := hv
    exact ⟨b, o, e, RelC.stl cs b o hc⟩
  | .cl r i, u, hv => by
    have hsh := cl_shape hv
    simp only [RelV] at *
    cases hr : c.st[r]? with
    | none => rw [hr] at hv; exact hv.elim
    | some ob =>
      rw [stlC_get hr]
      rw [hr] at hv
      cases ob with
      | dead => exact hsh
      | pool _ => exact hsh
      | cells cs => exact hv
      | vec t f xs => simp only [Eng.stl]; split <;> first | (next e => split at e <;> cases e; done) | exact hsh
  | .el r i j, u, hv => by
    have hsh := el_shape hv
    simp only [RelV] at *
    cases hr : c.st[r]? with
    | none => rw [hr] at hv; exact hv.elim
    | some ob =>
      rw [stlC_get hr]
      rw [hr] at hv
      cases ob with
      | dead => exact hsh
      | pool _ => exact hsh
      | cells cs => exact hv
      | vec t f xs =>
        simp only [Eng.stl]
        by_cases ht : hasH t = true
        · rw [if_pos ht]
          simp only [fzT_size, List.length_map]
          exact hv
        · rw [if_neg ht]
          exact hv
  | .vec r, u, hv => by
    have hsh := vec_shape hv
    simp only [RelV] at *
    cases hr : c.st[r]? with
    | none => rw [hr] at hv; exact hv.elim
    | some ob =>
      rw [stlC_get hr]
      rw [hr] at hv
      cases ob with
      | dead => exact hsh
      | pool _ => exact hsh
      | cells cs => exact hsh
      | vec t f xs =>
        simp only [Eng.stl]
        by_cases ht : hasH t = true
        · rw [if_pos ht]
          simp only [fzT_size, List.length_map]
          exact hv
        · rw [if_neg ht]
          exact hv
  | .vw r lo n, u, hv => by
    have hsh := vw_shape hv
    simp only [RelV] at *
    cases hr : c.st[r]? with
    | none => rw [hr] at hv; exact hv.elim
    | some ob =>
      rw [stlC_get hr]
      rw [hr] at hv
      cases ob with
      | dead => exact hsh
      | pool _ => exact hsh
      | cells cs => exact hsh
      | vec t f xs =>
        simp only [Eng.stl]
        by_cases ht : hasH t = true
        · rw [if_pos ht]
          simp only [fzT_size, List.length_map]
          exact hv
        · rw [if_neg ht]
          exact hv
  | .agg vs, u, hv => by
    simp only [RelV] at *
    obtain ⟨us, e, hc⟩ := hv
    exact ⟨us, e, RelVs.stl vs _ hc⟩
  | .tup vs, u, hv => by
    simp only [RelV] at *
    obtain ⟨us, e, hc⟩ := hv
    exact ⟨us, e, RelVs.stl vs _ hc⟩
  | .fn f a b, u, hv => by
    simp only [RelV] at *
    obtain ⟨us1, us2, e, h1, h2⟩ := hv
    exact ⟨us1, us2, e, RelVs.stl a _ h1, RelVs.stl b _ h2⟩
  | .gd _ _ _, _, _ => by simp only [RelV]
  | .hd _, _, hv => by simpa only [RelV] using hv
  | .pt _ _, _, hv => by simpa only [RelV] using hv
theorem RelVs.stl {c : Cfg} {m : Pool} : ∀ (vs : List V) (us : List Value), RelVs c vs us → RelVs (stlC c m) vs us
  | [], _, hv => by simpa only [RelVs] using hv
  | v :: vs, us, hv => by
    simp only [RelVs] at *
    obtain ⟨u, us', e, h1, h2⟩ := hv
    exact ⟨u, us', e, RelV.stl v u h1, RelVs.stl vs us' h2⟩
theorem RelC.stl {c : Cfg} {m : Pool} : ∀ (vs : List V) (b o : Nat), RelC c vs b o → RelC (stlC c m) vs b o
  | [], _, _, _ => by simp only [RelC]
  | v :: vs, b, o, hv => by
    simp only [RelC] at *
    obtain ⟨⟨u, h1, h2, h3⟩, h4⟩ := hv
    exact ⟨⟨u, h1, .inl h2, RelV.stl v u h3⟩, RelC.stl vs b (o + 1) h4⟩
end

mutual
/-- A header as the list that it stands for. -/
def hdV (m : Pool) : V → V
  | .hd h => .ro (.int .i64) (h.get m)
  | .agg cs => .agg (hdVs m cs)
  | .tup cs => .tup (hdVs m cs)
  | v => v
def hdVs (m : Pool) : List V → List V
  | [] => []
  | v :: vs => hdV m v :: hdVs m vs
end

mutual
def condV (m : Pool) : V → List Prop
  | .hd h => [h.ok m]
  | .agg cs => condVs m cs
  | .tup cs => condVs m cs
  | _ => []
def condVs (m : Pool) : List V → List Prop
  | [] => []
  | v :: vs => condV m v ++ condVs m vs
end

mutual
theorem hdV_rel {w0 : Base} {c : Cfg} (hr : Rel w0 c) {p : Nat} {m : Pool} (hm : poolAt 0 c.st = some (p, m)) : ∀ (v : V) (u : Value), (∀ q, q ∈ condV m v → q) → RelV c v u → RelV (stlC c m) (hdV m v) u
  | .hd h, u, hk, hv => by
    have h0 := hk (h.ok m) (by simp [condV])
    simp only [RelV] at hv
    simp only [hdV, RelV]
    rw [hv]
    exact hd_rel hr hm ⟨fun _ _ h => .inl h, fun b row o h1 h2 => .inr ⟨row, h1, h2⟩⟩ h0
  | .agg cs, u, hk, hv => by
    simp only [hdV, RelV] at *
    obtain ⟨us, e, hc⟩ := hv
    exact ⟨us, e, hdVs_rel hr hm cs _ (by simpa only [condV] using hk) hc⟩
  | .tup cs, u, hk, hv => by
    simp only [hdV, RelV] at *
    obtain ⟨us, e, hc⟩ := hv
    exact ⟨us, e, hdVs_rel hr hm cs _ (by simpa only [condV] using hk) hc⟩
  | .any, u, _, hv | .x _, u, _, hv | .ro _ _, u, _, hv | .rc _ _, u, _, hv | .cl _ _, u, _, hv | .el _ _ _, u, _, hv | .vec _, u, _, hv | .vw _ _ _, u, _, hv | .fn _ _ _, u, _, hv | .gd _ _ _, u, _, hv | .pt _ _, u, _, hv => RelV.stl _ u hv
theorem hdVs_rel {w0 : Base} {c : Cfg} (hr : Rel w0 c) {p : Nat} {m : Pool} (hm : poolAt 0 c.st = some (p, m)) : ∀ (vs : List V) (us : List Value), (∀ q, q ∈ condVs m vs → q) → RelVs c vs us → RelVs (stlC c m) (hdVs m vs) us
  | [], us, _, hv => by simpa only [hdVs, RelVs] using hv
  | v :: vs, us, hk, hv => by
    simp only [condVs] at hk
    simp only [hdVs, RelVs] at *
    obtain ⟨u, us', e, h1, h2⟩ := hv
    exact ⟨u, us', e, hdV_rel hr hm v u (fun q hq => hk q (List.mem_append_left _ hq)) h1, hdVs_rel hr hm vs us' (fun q hq => hk q (List.mem_append_right _ hq)) h2⟩
end

/-- The state with the pool laid to rest is a state. -/
theorem stlC_rel {w0 : Base} {c : Cfg} (hr : Rel w0 c) {p : Nat} {m : Pool} (hm : poolAt 0 c.st = some (p, m)) (hk : ∀ q, q ∈ condS m c.st → q) : Rel w0 (stlC c m) := by
  obtain ⟨hn, hp⟩ := hr.pl.2 p m (poolAt_st hm)
  have hA : Apool c m (stlC c m).A := ⟨fun _ _ h => .inl h, fun b row o h1 h2 => .inr ⟨row, h1, h2⟩⟩
  have hget : ∀ (r : Nat) ob', (stlC c m).st[r]? = some ob' → ∃ ob, c.st[r]? = some ob ∧ ob' = Eng.stl m ob := fun r ob' h => by
    simp only [stlC, List.getElem?_map] at h
    cases hs : c.st[r]? with
    | none => rw [hs] at h; cases h
    | some ob =>
      rw [hs] at h
      simp only [Option.map_some, Option.some.injEq] at h
      exact ⟨ob, rfl, h.symm⟩
  have hlive : ∀ r, live (stlC c m).st r → live c.st r := fun r hl => by
    have hlt := live_lt hl
    unfold live at hl
    rw [List.getElem?_eq_getElem hlt] at hl
    obtain ⟨ob, h1, h2⟩ := hget r _ (List.getElem?_eq_getElem hlt)
    refine live_of h1 fun e => ?_
    subst e
    have h3 : (stlC c m).st[r] = .dead := h2
    rw [h3] at hl
    exact hl
  exact {
      below := hr.below
      inj := fun r1 r2 b' h h' hb1 hb2 => hr.inj r1 r2 b' (hlive _ h) (hlive _ h') hb1 hb2
      fresh := fun r1 b' h hb1 => hr.fresh r1 b' (hlive _ h) hb1
      bound := fun b o h => by
        rcases h with h | ⟨row, h1, h2⟩
        · exact hr.bound b o h
        · obtain ⟨_, _, _, ce, e, g1, _⟩ := hp b row h1
          exact (Array.getElem?_eq_some_iff.1 g1).1
      newA := fun b o h => by
        rcases h with h | ⟨row, h1, h2⟩
        · exact hr.newA b o h
        · exact .inr (hp b row h1).1
      obj := fun r ob' h => by
        obtain ⟨ob, h1, rfl⟩ := hget r ob' h
        have ho := hr.obj r ob h1
        have hnA : ∀ b, live c.st r → c.bl r = some b → ∀ o, (stlC c m).A b o → c.A b o := fun b hl hb o h => by
          rcases h with h | ⟨row, h2, _⟩
          · exact h
          · exact absurd hb ((hp b row h2).2.1 r hl)
        cases ob with
        | dead => trivial
        | pool _ => trivial
        | cells cs =>
          obtain ⟨b, ce, e, g1, g2, g3, g4⟩ := ho
          exact ⟨b, ce, e, g1, g2, RelVs.stl cs _ g3, fun o g => g4 o (hnA b (live_of h1 (by simp)) g1 o g)⟩
        | vec t f xs =>
          obtain ⟨g0, gf, ⟨g1, g2⟩ | ⟨b, ce, e, cap, g1, g2, g3, g4, g5, g6⟩⟩ := ho
          · simp only [Eng.stl]
            by_cases ht : hasH t = true
            · rw [if_pos ht]
              exact ⟨by rw [fzT_size]; exact g0, by rw [List.length_map]; exact gf, .inl ⟨g1, by rw [g2]; rfl⟩⟩
            · rw [if_neg ht]
              exact ⟨g0, gf, .inl ⟨g1, g2⟩⟩
          · have hl := live_of h1 (by simp)
            simp only [Eng.stl]
            by_cases ht : hasH t = true
            · rw [if_pos ht]
              have hrows := condS_get hk h1 ht
              refine ⟨by rw [fzT_size]; exact g0, by rw [List.length_map]; exact gf, .inr ⟨b, ce, e, cap, g1, g2, by rw [fzT_size]; exact g3, by rw [List.length_map]; exact g4, fun i y hy => ?_, fun o ho g => g6 o (by rw [fzT_size] at ho; exact ho) (hnA b hl g1 o g)⟩⟩
              rw [List.getElem?_map] at hy
              cases hx : xs[i]? with
              | none => rw [hx] at hy; cases hy
              | some x =>
                rw [hx] at hy
                simp only [Option.map_some, Option.some.injEq] at hy
                subst hy
                rw [fzT_size]
                exact fz_rel hr hm hA (hrows x (List.mem_of_getElem? hx)) (g5 i x hx)
            · rw [if_neg ht]
              exact ⟨g0, gf, .inr ⟨b, ce, e, cap, g1, g2, g3, g4, fun i y hy => RoV.ext hA.1 (fun _ _ _ => rfl) (g5 i y hy), fun o ho g => g6 o ho (hnA b hl g1 o g)⟩⟩
      pl := PoolOk.none fun r m' h => by
        obtain ⟨ob, h1, h2⟩ := hget r _ h
        cases ob with
        | vec t f xs => simp only [Eng.stl] at h2; split at h2 <;> cases h2
        | _ => cases h2 }

theorem settle_sound {w0 : Base} {cb c : Cfg} (hr : Rel w0 c) (hxb : Ext cb c) {k : Nat} (hkb : cb.st.length ≤ k) {K : List Ob → Prop} (h : settleP k c.st K) : ∃ c', c'.w = c.w ∧ Rel w0 c' ∧ Ext cb c' ∧ (∀ v u, RelV c v u → RelV c' v u) ∧ K c'.st := by
  unfold settleP at h
  split at h
  · next p m hm =>
    cases hno : noHs k c.st with
    | false => rw [hno] at h; exact h.elim
    | true =>
    rw [hno] at h
    obtain ⟨hk, h⟩ := andL_out h
    have hpst := poolAt_st hm
    obtain ⟨hn, hp⟩ := hr.pl.2 p m hpst
    have hA : Apool c m (stlC c m).A := ⟨fun _ _ h => .inl h, fun b row o h1 h2 => .inr ⟨row, h1, h2⟩⟩
    have hget : ∀ (r : Nat) ob', (stlC c m).st[r]? = some ob' → ∃ ob, c.st[r]? = some ob ∧ ob' = Eng.stl m ob := fun r ob' h => by
      simp only [stlC, List.getElem?_map] at h
      cases hs : c.st[r]? with
      | none => rw [hs] at h; cases h
      | some ob =>
        rw [hs] at h
        simp only [Option.map_some, Option.some.injEq] at h
        exact ⟨ob, rfl, h.symm⟩
    have hlive : ∀ r, live (stlC c m).st r → live c.st r := fun r hl => by
      have hlt := live_lt hl
      unfold live at hl
      rw [List.getElem?_eq_getElem hlt] at hl
      obtain ⟨ob, h1, h2⟩ := hget r _ (List.getElem?_eq_getElem hlt)
      refine live_of h1 fun e => ?_
      subst e
      have h3 : (stlC c m).st[r] = .dead := h2
      rw [h3] at hl
      exact hl
    refine ⟨stlC c m, rfl, ?_, ?_, fun v u hv => RelV.stl v u hv, h⟩
    · exact stlC_rel hr hm hk
    · exact {
        size := hxb.size
        sub := fun b o h => .inl (hxb.sub b o h)
        cells := hxb.cells
        len := by simp only [stlC, List.length_map]; exact hxb.len
        keep := fun r ob' hrl h => by
          obtain ⟨ob, h1, rfl⟩ := hget r ob' h
          have hk' := hxb.keep r ob hrl h1
          cases ob with
          | dead => trivial
          | cells cs => exact hk'
          | pool m => trivial
          | vec t f xs =>
            simp only [Eng.stl]
            rw [if_neg (by rw [noHs_get hno (by omega) h1]; simp)]
            exact hk' }
  · exact ⟨c, rfl, hr, hxb, fun _ _ h => h, h⟩

end Eng
end Go.Proofs.YtkpplfghhciacaaDoor

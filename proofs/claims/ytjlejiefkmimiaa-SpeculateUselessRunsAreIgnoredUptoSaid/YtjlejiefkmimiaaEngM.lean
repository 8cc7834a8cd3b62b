/-
  The code of a function on abstract values: sequences, branches, blocks, loops, calls. Conditions: none.
-/
import Derived.Test.YtjlejiefkmimiaaEngL
namespace Go.Proofs.Ytjlejiefkmimiaa
namespace Eng
open Go.RowKit

/-- What is kept at a loop's head and at its exits; the slots that hold rows of the run's own. -/
structure LoopD where
  keep : List Nat
  vecs : List (Nat × Ty)
  out : List Nat
  rets : List Nat

/-- What is kept where ways meet again: the objects ahead of base, the slots that hold rows, the slots that are read later. -/
structure CutD where
  base : Nat
  vecs : List (Nat × Ty)
  keep : List Nat
  out : List Nat
  rets : List Nat

abbrev St := List V → List Ob → Prop

inductive Ex where
  | normal
  | exit (id : Nat)
  | ret

/-- What is noted beside the code: of a loop what is kept, or what it comes to. -/
inductive Ann where
  | leaf
  | node (a b : Ann)
  | loop (d : LoopD) (a : Ann)
  | lift (d : LoopD) (len : Nat) (F : List V → List Ob → (Ex → St) → Prop)
  | cut (a : Ann) (d : CutD) (len : Nat) (F : List V → List Ob → (Ex → St) → Prop)

def Ann.l : Ann → Ann
  | .node a _ => a
  | _ => .leaf
def Ann.r : Ann → Ann
  | .node _ b => b
  | _ => .leaf

def enterV : List (Nat × Ty) → List V → List Ob → Option (List V × List Ob)
  | [], sl, st => some (sl, st)
  | (s, τ) :: r, sl, st => match sl.getD s .any with
    | .vec ρ => match st[ρ]? with
      | some (.vec t f xs) => enterV r (sl.set s (.vec st.length)) (st.set ρ .dead ++ [.vec t f xs])
      | _ => none
    | .vw ρ 0 n => match st[ρ]? with
      | some (.vec t 0 xs) => enterV r (sl.set s (.vec st.length)) (st.set ρ .dead ++ [.vec t 0 (xs.take n)])
      | _ => none
    | .x (.slice none 0 0) => if 0 < τ.size then enterV r (sl.set s (.vec st.length)) (st ++ [.vec τ 0 []]) else none
    | _ => none

theorem setSlot_rel {c : Cfg} {sl : List V} {tmps : Array Value} (h : SlR c sl tmps) (hg : GdIn [] sl) {s : Nat} {v : V} (hv : RelV c v (tmps.getD s undef)) (hn : ∀ g w x, v ≠ .gd g w x) :
    SlR c (sl.set s v) tmps ∧ GdIn [] (sl.set s v) := by
  refine ⟨⟨by simp; exact h.len, fun t => ?_⟩, fun t g w x e => ?_⟩
  · have hs := h.slot t
    unfold SlotR at hs ⊢
    rw [getD_set]
    by_cases hc : s = t ∧ s < sl.length
    · rw [if_pos hc]
      obtain ⟨rfl, _⟩ := hc
      split
      · next g w x => exact absurd rfl (hn g w x)
      · exact hv
    · rw [if_neg hc]
      exact hs
  · rw [getD_set] at e
    split at e
    · exact absurd e (hn g w x)
    · exact hg t g w x e

theorem slot_plain {c : Cfg} {sl : List V} {tmps : Array Value} (h : SlR c sl tmps) (hg : GdIn [] sl) (t : Nat) : RelV c (sl.getD t .any) (tmps.getD t undef) := by
  have hs := h.slot t
  unfold SlotR at hs
  split at hs
  · next g w v e => exact absurd (hg t g w v e) (by simp)
  · exact hs

theorem enterV_sound {w0 : Base} {cb : Cfg} {tmps : Array Value} : ∀ {vs : List (Nat × Ty)} {c : Cfg} {sl sl' : List V} {st' : List Ob}, Rel w0 c → Ext cb c → SlR c sl tmps → GdIn [] sl →
    enterV vs sl c.st = some (sl', st') → ∃ c', c'.w = c.w ∧ c'.st = st' ∧ Rel w0 c' ∧ Ext cb c' ∧ SlR c' sl' tmps ∧ GdIn [] sl' ∧ c.st.length ≤ c'.st.length
  | [], c, sl, sl', st', hr, hx, hs, hg, h => by
    simp only [enterV, Option.some.injEq, Prod.mk.injEq] at h
    obtain ⟨rfl, rfl⟩ := h
    exact ⟨c, rfl, rfl, hr, hx, hs, hg, Nat.le_refl _⟩
  | (s, τ) :: vs, c, sl, sl', st', hr, hx, hs, hg, h => by
    simp only [enterV] at h
    have hslot := slot_plain hs hg s
    split at h
    · next ρ e =>
      rw [e] at hslot
      split at h
      · next t f xs hst =>
        obtain ⟨h1, h2, h3⟩ := mv_rel hr hst
        obtain ⟨k1, k2⟩ := setSlot_rel (s := s) (SlR.ext h2 hs) hg (h3 _ hslot) (fun _ _ _ => by simp)
        obtain ⟨c', g1, g2, g3, g4, g5, g6, g7⟩ := enterV_sound (vs := vs) h1 (hx.trans h2) k1 k2 h
        exact ⟨c', g1, g2, g3, g4, g5, g6, Nat.le_trans h2.len g7⟩
      · cases h
    · next ρ n e =>
      rw [e] at hslot
      split at h
      · next t xs hst =>
        obtain ⟨h1, h2, h3⟩ := vw_mv hr hst n
        obtain ⟨k1, k2⟩ := setSlot_rel (s := s) (SlR.ext h2 hs) hg (h3 _ hslot) (fun _ _ _ => by simp)
        obtain ⟨c', g1, g2, g3, g4, g5, g6, g7⟩ := enterV_sound (vs := vs) h1 (hx.trans h2) k1 k2 h
        exact ⟨c', g1, g2, g3, g4, g5, g6, Nat.le_trans h2.len g7⟩
      · cases h
    · next e =>
      rw [e] at hslot
      split at h
      · next hτ =>
        obtain ⟨h1, h2⟩ := ghost_rel hr hτ
        have hv : RelV (ghostC c τ) (.vec c.st.length) (tmps.getD s undef) := by
          simp only [RelV] at hslot
          simp only [RelV, ghostC]
          rw [List.getElem?_append_right (Nat.le_refl _)]
          simp [hslot]
        obtain ⟨k1, k2⟩ := setSlot_rel (s := s) (SlR.ext h2 hs) hg hv (fun _ _ _ => by simp)
        obtain ⟨c', g1, g2, g3, g4, g5, g6, g7⟩ := enterV_sound (vs := vs) h1 (hx.trans h2) k1 k2 h
        exact ⟨c', g1, g2, g3, g4, g5, g6, Nat.le_trans h2.len g7⟩
      · cases h
    · cases h

def keepS (keep : List Nat) : Nat → List V → List V
  | _, [] => []
  | i, v :: r => (if keep.contains i = true then v else .any) :: keepS keep (i + 1) r

theorem keepS_len (keep : List Nat) : ∀ (l : List V) (i : Nat), (keepS keep i l).length = l.length
  | [], _ => rfl
  | v :: r, i => by simp [keepS, keepS_len keep r]

theorem keepS_get (keep : List Nat) : ∀ (l : List V) (i t : Nat), (keepS keep i l).getD t .any = if keep.contains (i + t) = true then l.getD t .any else .any
  | [], _, t => by simp [keepS]
  | v :: r, i, 0 => by simp [keepS]
  | v :: r, i, t + 1 => by
    have := keepS_get keep r (i + 1) t
    simp only [keepS, List.getD_cons_succ]
    rw [this, show i + 1 + t = i + (t + 1) from by omega]

/-- Where the rows of these slots are now. -/
def vroots : List (Nat × Ty) → List V → Option (List Nat)
  | [], _ => some []
  | (s, _) :: r, sl => match sl.getD s .any, vroots r sl with
    | .vec ρ, some l => some (ρ :: l)
    | _, _ => none

def setVs : List (Nat × Ty) → Nat → List V → List V
  | [], _, sl => sl
  | (s, _) :: r, n, sl => setVs r (n + 1) (sl.set s (.vec n))

/-- The head's form: objects under their names, other slots forgotten. -/
def normL (L0 : Nat) (vecs : List (Nat × Ty)) (keep : List Nat) (sl : List V) (st : List Ob) : Option (List V × List Ob) :=
  match vroots vecs sl with
  | some l =>
    if distinct (List.range L0 ++ l) = true then
    if okRefs (List.range L0 ++ l) (keepS keep 0 sl) = true then
    if okObs (List.range L0 ++ l) ((List.range L0 ++ l).map fun i => st.getD i .dead) = true then
      some (setVs vecs L0 (keepS keep 0 sl), (List.range L0 ++ l).map fun i => st.getD i .dead)
    else none else none else none
  | none => none

theorem okRefs_get {g : List Nat} : ∀ {l : List V} {t : Nat}, okRefs g l = true → okRef g (l.getD t .any) = true
  | [], t, _ => by simp [okRef]
  | v :: l, 0, h => by
    simp only [okRefs, Bool.and_eq_true] at h
    simpa using h.1
  | v :: l, t + 1, h => by
    simp only [okRefs, Bool.and_eq_true] at h
    simpa using okRefs_get (l := l) (t := t) h.2

theorem setVs_rel {c : Cfg} {tmps : Array Value} : ∀ (vs : List (Nat × Ty)) (n : Nat) (sl : List V), SlR c sl tmps → GdIn [] sl → (∀ k s τ, vs[k]? = some (s, τ) → RelV c (.vec (n + k)) (tmps.getD s undef)) →
    SlR c (setVs vs n sl) tmps ∧ GdIn [] (setVs vs n sl)
  | [], n, sl, hs, hg, _ => ⟨hs, hg⟩
  | (s, τ) :: vs, n, sl, hs, hg, h => by
    have h0 := h 0 s τ (by simp)
    obtain ⟨k1, k2⟩ := setSlot_rel (s := s) hs hg h0 (fun _ _ _ => by simp)
    refine setVs_rel vs (n + 1) _ k1 k2 fun k s' τ' hk => ?_
    have := h (k + 1) s' τ' (by simpa using hk)
    rw [show n + 1 + k = n + (k + 1) from by omega]
    exact this

theorem vroots_get : ∀ {vs : List (Nat × Ty)} {sl : List V} {l : List Nat}, vroots vs sl = some l → ∀ (k s : Nat) (τ : Ty), vs[k]? = some (s, τ) → ∃ ρ, l[k]? = some ρ ∧ sl.getD s .any = .vec ρ
  | [], sl, l, _, k, s, τ, hk => by simp at hk
  | (s0, τ0) :: vs, sl, l, h, k, s, τ, hk => by
    simp only [vroots] at h
    split at h
    · next ρ l' e1 e2 =>
      cases h
      cases k with
      | zero =>
        simp only [List.getElem?_cons_zero, Option.some.injEq, Prod.mk.injEq] at hk
        obtain ⟨rfl, rfl⟩ := hk
        exact ⟨ρ, by simp, e1⟩
      | succ k =>
        obtain ⟨ρ', h1, h2⟩ := vroots_get e2 k s τ (by simpa using hk)
        exact ⟨ρ', by simpa using h1, h2⟩
    · cases h

theorem normL_sound {w0 : Base} {cb c : Cfg} {L0 : Nat} {vecs : List (Nat × Ty)} {keep : List Nat} {sl sl' : List V} {st' : List Ob} {tmps : Array Value} (hr : Rel w0 c) (hx : Ext cb c) (hs : SlR c sl tmps) (hg : GdIn [] sl)
    (hL : cb.st.length ≤ L0) (h : normL L0 vecs keep sl c.st = some (sl', st')) : ∃ c', c'.w = c.w ∧ c'.st = st' ∧ Rel w0 c' ∧ Ext cb c' ∧ SlR c' sl' tmps ∧ GdIn [] sl' := by
  unfold normL at h
  split at h
  · next l hl =>
    split at h
    · next hd =>
      split at h
      · next hk =>
        split at h
        · next ho =>
          cases h
          generalize hgg : List.range L0 ++ l = g at *
          have hid : ∀ r, r < L0 → g[r]? = some r := fun r hrl => by
            rw [← hgg, List.getElem?_append_left (by simpa using hrl)]
            simp [hrl]
          have hr' := re_rel hr hd ho
          have hx' := re_ext hx (fun r hrl => hid r (by omega))
          have hs1 : SlR (reC c g) (keepS keep 0 sl) tmps := by
            refine ⟨by rw [keepS_len]; exact hs.len, fun t => ?_⟩
            have hsl := slot_plain hs hg t
            have hok := okRefs_get (t := t) hk
            unfold SlotR
            rw [keepS_get] at hok ⊢
            split
            · next g' w' v' e =>
              split at e
              · exact absurd (hg t g' w' v' e) (by simp)
              · cases e
            · next hn =>
              split
              · next hc =>
                rw [if_pos hc] at hok
                exact RelV.re _ _ hok hsl
              · simp only [RelV]
          have hg1 : GdIn [] (keepS keep 0 sl) := fun t g' w' v' e => by
            rw [keepS_get] at e
            split at e
            · exact hg t g' w' v' e
            · cases e
          obtain ⟨k1, k2⟩ := setVs_rel vecs L0 _ hs1 hg1 (fun k s τ hks => by
            obtain ⟨ρ, h1, h2⟩ := vroots_get hl k s τ hks
            have hsl := slot_plain hs hg s
            rw [h2] at hsl
            have hgk : g[L0 + k]? = some ρ := by
              rw [← hgg, List.getElem?_append_right (by simp)]
              simpa using h1
            simp only [RelV] at hsl ⊢
            rw [reC_st hgk]
            cases hst : c.st[ρ]? with
            | none => rw [hst] at hsl; exact hsl.elim
            | some ob =>
              rw [hst] at hsl
              simp only [List.getD_eq_getElem?_getD, hst, Option.getD_some]
              cases ob with
              | vec t f xs => rw [reC_bl hgk]; exact hsl
              | _ => trivial)
          exact ⟨reC c g, rfl, rfl, hr', hx', k1, k2⟩
        · cases h
      · cases h
    · cases h
  · cases h

/-- A head's slots out of those that are kept. -/
def bld : List Nat → List V → Nat → Nat → List V
  | _, _, _, 0 => []
  | k :: ks, v :: vs, i, n + 1 => if i = k then v :: bld ks vs (i + 1) n else .any :: bld (k :: ks) (v :: vs) (i + 1) n
  | ks, vs, i, n + 1 => .any :: bld ks vs (i + 1) n

def rising : Nat → List Nat → Bool
  | _, [] => true
  | i, k :: ks => Nat.ble i k && rising (k + 1) ks

theorem bld_nil (i : Nat) (vs : List V) : ∀ n, bld [] vs i n = List.replicate n .any := by
  intro n
  induction n generalizing i with
  | zero => cases vs <;> rfl
  | succ n ih => cases vs <;> simp only [bld, ih, List.replicate_succ]

theorem keepS_none (keep : List Nat) : ∀ (sl : List V) (i : Nat), (∀ k, k ∈ keep → k < i) → keepS keep i sl = List.replicate sl.length .any
  | [], i, _ => rfl
  | v :: r, i, h => by
    have hn : keep.contains i = false := by
      cases hc : keep.contains i with
      | false => rfl
      | true => exact absurd (h i (by simpa using hc)) (by omega)
    simp only [keepS, hn, Bool.false_eq_true, if_false, List.length_cons, List.replicate_succ]
    rw [keepS_none keep r (i + 1) (fun k hk => Nat.lt_succ_of_lt (h k hk))]

theorem keepS_cons (k : Nat) (ks : List Nat) : ∀ (sl : List V) (i : Nat), k < i → keepS (k :: ks) i sl = keepS ks i sl
  | [], _, _ => rfl
  | v :: r, i, h => by
    have : (k :: ks).contains i = ks.contains i := by
      simp only [List.contains_cons]
      have : (i == k) = false := by simp; omega
      rw [this, Bool.false_or]
    simp only [keepS, this]
    rw [keepS_cons k ks r (i + 1) (by omega)]

theorem rising_lt : ∀ {ks : List Nat} {i j : Nat}, rising i ks = true → j ∈ ks → i ≤ j
  | k :: ks, i, j, h, hj => by
    simp only [rising, Bool.and_eq_true, Nat.ble_eq] at h
    rcases List.mem_cons.1 hj with rfl | hj
    · exact h.1
    · have := rising_lt h.2 hj; omega

theorem keepS_bld : ∀ (sl : List V) (ks : List Nat) (i : Nat), rising i ks = true → keepS ks i sl = bld ks (ks.map fun k => sl.getD (k - i) .any) i sl.length
  | [], ks, i, _ => by cases ks <;> rfl
  | v :: r, [], i, _ => by
    rw [List.map_nil, bld_nil, keepS_none [] (v :: r) i (by simp)]
  | v :: r, k :: ks, i, h => by
    have h0 := h
    simp only [rising, Bool.and_eq_true, Nat.ble_eq] at h
    simp only [List.map_cons, List.length_cons, bld]
    by_cases hik : i = k
    · subst hik
      rw [if_pos rfl]
      simp only [keepS, List.contains_cons, beq_self_eq_true, Bool.true_or, if_true, Nat.sub_self, List.getD_cons_zero]
      rw [keepS_cons i ks r (i + 1) (by omega), keepS_bld r ks (i + 1) h.2]
      congr 2
      apply List.map_congr_left
      intro j hj
      have := rising_lt h.2 hj
      rw [show j - i = (j - (i + 1)) + 1 from by omega, List.getD_cons_succ]
    · rw [if_neg hik]
      have hn : (k :: ks).contains i = false := by
        cases hc : (k :: ks).contains i with
        | false => rfl
        | true =>
          have hm : i ∈ k :: ks := by simpa using hc
          rcases List.mem_cons.1 hm with rfl | hm
          · exact absurd rfl hik
          · have := rising_lt h.2 hm; omega
      simp only [keepS, hn, Bool.false_eq_true, if_false]
      rw [keepS_bld r (k :: ks) (i + 1) (by simp only [rising, Bool.and_eq_true, Nat.ble_eq]; exact ⟨by omega, h.2⟩)]
      simp only [List.map_cons]
      rw [show k - i = (k - (i + 1)) + 1 from by omega, List.getD_cons_succ]
      congr 3
      apply List.map_congr_left
      intro j hj
      have := rising_lt h.2 hj
      rw [show j - i = (j - (i + 1)) + 1 from by omega, List.getD_cons_succ]

def iterL (step : St → St) : Nat → St
  | 0 => fun _ _ => False
  | n + 1 => step (iterL step n)

def norm? (o : Option (List V × List Ob)) (K : St) : Prop := match o with
  | some (x, y) => K x y
  | none => False

def region (P : Program) (C : Caller) (ops : List Oper) (sl : List V) (st : List Ob) (K : St) : Prop :=
  aopsK P C (guards ops ops) ops ops [] sl st fun sl' st' => K (clr (guards ops ops) sl') st'

/-- The form at a return: the result's slots, the objects of the loop's outside and the rows in the result. -/
def normR (L0 : Nat) (rets : List Nat) (sl : List V) (st : List Ob) : Option (List V × List Ob) :=
  match (List.range L0 ++ (vrefsL (keepS rets 0 sl)).filter fun r => Nat.ble L0 r) with
  | g => match renL g (keepS rets 0 sl) with
    | some sl' =>
      if distinct g = true then if okObs g (g.map fun i => st.getD i .dead) = true then some (sl', g.map fun i => st.getD i .dead) else none else none
    | none => none

theorem renL_get : ∀ {g : List Nat} {vs vs' : List V}, renL g vs = some vs' → vs'.length = vs.length ∧ ∀ t, ren g (vs.getD t .any) = some (vs'.getD t .any)
  | g, [], vs', h => by
    simp only [renL, Option.some.injEq] at h
    subst h
    exact ⟨rfl, fun t => by simp [ren]⟩
  | g, v :: vs, vs', h => by
    simp only [renL] at h
    split at h
    · next v1 vs1 e1 e2 =>
      cases h
      obtain ⟨h1, h2⟩ := renL_get e2
      refine ⟨by simp [h1], fun t => ?_⟩
      cases t with
      | zero => simpa using e1
      | succ t => simpa using h2 t
    · cases h

theorem ren_ne {g : List Nat} {v : V} {a : Nat} {b : Bool} {x : V} : ren g v ≠ some (.gd a b x) := by
  cases v <;> simp only [ren] <;> first | (intro h; cases h; done) | (split <;> intro h <;> cases h; done) | skip

theorem normR_sound {w0 : Base} {cb c : Cfg} {L0 : Nat} {rets : List Nat} {sl sl' : List V} {st' : List Ob} {tmps : Array Value} (hr : Rel w0 c) (hx : Ext cb c) (hs : SlR c sl tmps) (hg : GdIn [] sl)
    (hL : cb.st.length ≤ L0) (h : normR L0 rets sl c.st = some (sl', st')) : ∃ c', c'.w = c.w ∧ c'.st = st' ∧ Rel w0 c' ∧ Ext cb c' ∧ SlR c' sl' tmps ∧ GdIn [] sl' := by
  unfold normR at h
  simp only at h
  generalize hgg : (List.range L0 ++ (vrefsL (keepS rets 0 sl)).filter fun r => Nat.ble L0 r) = g at h
  split at h
  · next sl2 hren =>
    split at h
    · next hd =>
      split at h
      · next ho =>
        cases h
        have hid : ∀ r, r < L0 → g[r]? = some r := fun r hrl => by
          rw [← hgg, List.getElem?_append_left (by simpa using hrl)]
          simp [hrl]
        obtain ⟨hlen, hget⟩ := renL_get hren
        refine ⟨reC c g, rfl, rfl, re_rel hr hd ho, re_ext hx (fun r hrl => hid r (by omega)), ⟨by rw [hlen, keepS_len]; exact hs.len, fun t => ?_⟩, fun t a b x e => ?_⟩
        · have hsl : RelV c ((keepS rets 0 sl).getD t .any) (tmps.getD t undef) := by
            rw [keepS_get]
            split
            · exact slot_plain hs hg t
            · simp only [RelV]
          have := ren_rel _ _ _ (hget t) hsl
          unfold SlotR
          split
          · next a b x e => exact absurd (e ▸ hget t) ren_ne
          · exact this
        · exact absurd (e ▸ hget t) ren_ne
      · cases h
    · cases h
  · cases h

/-- A round of a loop. -/
def stepL (E : List V → List Ob → (Ex → St) → Prop) (L0 : Nat) (d : LoopD) (K : Ex → St) (self : St) : St := fun sl' st' => E sl' st' fun e sl'' st'' => match e with
  | .normal => norm? (normL L0 d.vecs d.keep sl'' st'') self
  | .exit i => norm? (normL L0 d.vecs d.out sl'' st'') (K (.exit i))
  | .ret => norm? (normR L0 d.rets sl'' st'') (K .ret)

/-- What is left of the slots and objects behind ways that have met. -/
def cutK (d : CutD) (K : Ex → St) : Ex → St := fun e sl st => match e with
  | .normal => norm? (normR d.base d.out sl st) (K .normal)
  | .exit i => norm? (normR d.base d.out sl st) (K (.exit i))
  | .ret => norm? (normR d.base d.rets sl st) (K .ret)

def exec (P : Program) (C : Caller) (D : List Oper → List V → List Ob → St → Prop) : Ann → Code → List V → List Ob → (Ex → St) → Prop
  | _, .skip, sl, st, K => K .normal sl st
  | _, .region _ ops draw, sl, st, K => forceL sl fun sl => if draw = true then D ops.toList sl st (K .normal) else region P C ops.toList sl st (K .normal)
  | .cut a d len F, .seq x _, sl, st, K => exec P C D a x sl st fun e sl' st' => match e with
    | .normal => norm? (enterV d.vecs sl' st') fun sl1 st1 => norm? (normL d.base d.vecs d.keep sl1 st1) fun _ st2 =>
      if sl1.length = len then F (d.keep.map fun k => sl1.getD k .any) st2 K else False
    | .exit i => K (.exit i) sl' st'
    | .ret => K .ret sl' st'
  | a, .seq x y, sl, st, K => exec P C D a.l x sl st fun e sl' st' => match e with
    | .normal => exec P C D a.r y sl' st' K
    | .exit i => K (.exit i) sl' st'
    | .ret => K .ret sl' st'
  | a, .cond c x y, sl, st, K => match rdv sl [] c with
    | .x (.bool b) => bif b then exec P C D a.l x sl st K else exec P C D a.r y sl st K
    | _ => False
  | a, .block id b, sl, st, K => exec P C D a b sl st fun e sl' st' => match e with
    | .normal => K .normal sl' st'
    | .exit i => if i = id then K .normal sl' st' else K (.exit i) sl' st'
    | .ret => K .ret sl' st'
  | .loop d a, .loop b, sl, st, K => norm? (enterV d.vecs sl st) fun sl1 st1 => norm? (normL st.length d.vecs d.keep sl1 st1) fun sl2 st2 =>
      ∃ n, iterL (stepL (exec P C D a b) st.length d K) n sl2 st2
  | .lift d len F, .loop _, sl, st, K => norm? (enterV d.vecs sl st) fun sl1 st1 => norm? (normL st.length d.vecs d.keep sl1 st1) fun _ st2 =>
      if sl1.length = len then F (d.keep.map fun k => sl1.getD k .any) st2 K else False
  | _, .exit i, sl, st, K => K (.exit i) sl st
  | _, .ret, sl, st, K => K .ret sl st
  | _, _, _, _, _ => False

/-- What is noted of the loops is so. -/
def AnnOk (P : Program) (C : Caller) (D : List Oper → List V → List Ob → St → Prop) (N : Nat) : Ann → Code → Prop
  | .cut a d len F, .seq x y => AnnOk P C D N a x ∧ N ≤ d.base ∧ rising 0 d.keep = true ∧ ∃ b, AnnOk P C D N b y ∧ ∀ vs st K, d.base + d.vecs.length = st.length → F vs st K →
      exec P C D b y (setVs d.vecs d.base (bld d.keep vs 0 len)) st (cutK d K)
  | a, .seq x y => AnnOk P C D N a.l x ∧ AnnOk P C D N a.r y
  | a, .cond _ x y => AnnOk P C D N a.l x ∧ AnnOk P C D N a.r y
  | a, .block _ b => AnnOk P C D N a b
  | .loop _ a, .loop b => AnnOk P C D N a b
  | .lift d len F, .loop b => rising 0 d.keep = true ∧ ∃ a, AnnOk P C D N a b ∧ ∀ vs st L0 K, L0 + d.vecs.length = st.length → F vs st K →
      ∃ n, iterL (stepL (exec P C D a b) L0 d K) n (setVs d.vecs L0 (bld d.keep vs 0 len)) st
  | _, _ => True

theorem normL_form {L0 : Nat} {vecs : List (Nat × Ty)} {keep : List Nat} {sl sl' : List V} {st st' : List Ob} (h : normL L0 vecs keep sl st = some (sl', st')) :
    sl' = setVs vecs L0 (keepS keep 0 sl) ∧ L0 + vecs.length = st'.length := by
  unfold normL at h
  split at h
  · next l hl =>
    split at h
    · split at h
      · split at h
        · cases h
          have : ∀ (vs : List (Nat × Ty)) (l : List Nat), vroots vs sl = some l → l.length = vs.length := by
            intro vs
            induction vs with
            | nil => intro l h; simp only [vroots, Option.some.injEq] at h; subst h; rfl
            | cons p vs ih =>
              intro l h
              obtain ⟨s, τ⟩ := p
              simp only [vroots] at h
              split at h
              · next ρ l' e1 e2 => cases h; simp [ih _ e2]
              · cases h
          exact ⟨rfl, by simp [this vecs l hl]⟩
        · cases h
      · cases h
    · cases h
  · cases h

/-- The region that draws its order goes as this describes. -/
def SoundD (P : Program) (D : List Oper → List V → List Ob → St → Prop) : Prop :=
  ∀ (w0 : Base) (id : Nat) (ops : Array Oper) (c : Cfg) (sl : List V) (a : Act) (K : St) (Q : Exit → Act → World → Prop), Rel w0 c → SlR c sl a.tmps → GdIn [] sl → D ops.toList sl c.st K →
    (∀ sl' c' a', Rel w0 c' → Ext c c' → SlR c' sl' a'.tmps → GdIn [] sl' → a'.defers = a.defers → K sl' c'.st → Q .normal a' c'.w) → (Code.region id ops true).wp P Q a c.w

def ExR : Ex → Exit → Prop
  | .normal, .normal => True
  | .exit i, .exit j => i = j
  | .ret, .ret => True
  | _, _ => False

/-- What has been reached. -/
def Done (w0 : Base) (cb : Cfg) (K : Ex → St) (e : Exit) (a : Act) (w : World) : Prop :=
  ∃ ex sl c, ExR ex e ∧ c.w = w ∧ Rel w0 c ∧ Ext cb c ∧ SlR c sl a.tmps ∧ GdIn [] sl ∧ a.defers = [] ∧ K ex sl c.st

theorem GdIn.mono {G : List Nat} {sl : List V} (h : GdIn [] sl) : GdIn G sl := fun t g w v e => absurd (h t g w v e) (by simp)

theorem exec_sound {P : Program} {w0 : Base} {C : Caller} {D : List Oper → List V → List Ob → St → Prop} (hC : SoundC P C) (hD : SoundD P D) {N : Nat} : ∀ (code : Code) (ann : Ann) (c cb : Cfg) (sl : List V) (a : Act) (K : Ex → St),
    cb.st.length ≤ N → AnnOk P C D N ann code → Rel w0 c → Ext cb c → SlR c sl a.tmps → GdIn [] sl → a.defers = [] → exec P C D ann code sl c.st K → code.wp P (Done w0 cb K) a c.w
  | .skip, ann, c, cb, sl, a, K, hn, hk, hr, hx, hs, hg, hd, h => wp_skip ⟨.normal, sl, c, trivial, rfl, hr, hx, hs, hg, hd, h⟩
  | .region id ops draw, ann, c, cb, sl, a, K, hn, hk, hr, hx, hs, hg, hd, h => by
    simp only [exec, forceL_eq] at h
    cases draw with
    | true =>
      simp only [if_true] at h
      exact hD w0 id ops c sl a (K .normal) _ hr hs hg h fun sl' c' a' h1 h2 h3 h4 h5 h6 => ⟨.normal, sl', c', trivial, rfl, h1, hx.trans h2, h3, h4, h5.trans hd, h6⟩
    | false =>
      simp only [Bool.false_eq_true, if_false] at h
      refine wp_region_list ?_
      refine aopsK_sound hC ops.toList c [] sl a _ hr hs hg.mono (fun p hp => by simp at hp) h fun sl' c' a' h1 h2 h3 h4 h5 h6 => ?_
      obtain ⟨g1, g2⟩ := clr_rel h3 h4
      exact ⟨.normal, _, c', trivial, rfl, h1, hx.trans h2, g1, g2, h5.trans hd, h6⟩
  | .seq x y, ann, c, cb, sl, a, K, hn, hk, hr, hx, hs, hg, hd, h => by
    have plain : AnnOk P C D N ann.l x → AnnOk P C D N ann.r y → (exec P C D ann.l x sl c.st fun e sl' st' => match e with
        | .normal => exec P C D ann.r y sl' st' K
        | .exit i => K (.exit i) sl' st'
        | .ret => K .ret sl' st') → (Code.seq x y).wp P (Done w0 cb K) a c.w := by
      intro hk1 hk2 h
      refine wp_seq (wp_mono (exec_sound hC hD x ann.l c cb sl a _ hn hk1 hr hx hs hg hd h) fun e a' w' hq => ?_)
      obtain ⟨ex, sl', c', h1, rfl, h2, h3, h4, h5, h6, h7⟩ := hq
      cases ex with
      | normal =>
        cases e <;> first | exact h1.elim | skip
        exact exec_sound hC hD y ann.r c' cb sl' a' K hn hk2 h2 h3 h4 h5 h6 h7
      | exit i =>
        cases e <;> first | exact h1.elim | skip
        exact ⟨.exit i, sl', c', h1, rfl, h2, h3, h4, h5, h6, h7⟩
      | ret =>
        cases e <;> first | exact h1.elim | skip
        exact ⟨.ret, sl', c', trivial, rfl, h2, h3, h4, h5, h6, h7⟩
    cases ann with
    | cut an d len F =>
      simp only [exec] at h
      simp only [AnnOk] at hk
      obtain ⟨hk1, hbase, hris, b, hk2, hF⟩ := hk
      refine wp_seq (wp_mono (exec_sound hC hD x an c cb sl a _ hn hk1 hr hx hs hg hd h) fun e a' w' hq => ?_)
      obtain ⟨ex, sl', c', h1, rfl, h2, h3, h4, h5, h6, h7⟩ := hq
      cases ex with
      | normal =>
        cases e <;> first | exact h1.elim | skip
        simp only at h7
        cases he : enterV d.vecs sl' c'.st with
        | none => rw [he] at h7; exact h7.elim
        | some p =>
          obtain ⟨sl1, st1⟩ := p
          rw [he] at h7
          simp only [norm?] at h7
          obtain ⟨c1, hw1, hst1, hr1, hx1, hs1, hg1, _⟩ := enterV_sound h2 h3 h4 h5 he
          rw [← hst1] at h7
          cases hnn : normL d.base d.vecs d.keep sl1 c1.st with
          | none => rw [hnn] at h7; exact h7.elim
          | some p =>
            obtain ⟨sl2, st2⟩ := p
            rw [hnn] at h7
            simp only at h7
            obtain ⟨c2, hw2, hst2, hr2, hx2, hs2, hg2⟩ := normL_sound hr1 hx1 hs1 hg1 (by omega) hnn
            obtain ⟨f1, f2⟩ := normL_form hnn
            split at h7
            · next hlen =>
              have h8 := hF _ _ K f2 h7
              rw [← hst2] at h8
              rw [f1, keepS_bld sl1 d.keep 0 hris, hlen] at hs2 hg2
              rw [← hw1, ← hw2]
              refine wp_mono (exec_sound hC hD y b c2 cb _ a' _ hn hk2 hr2 hx2 hs2 hg2 h6 h8) fun e a' w' hq => ?_
              obtain ⟨ex, sl', c', h1, rfl, h2, h3, h4, h5, h6, h7⟩ := hq
              have fin : ∀ (ks : List Nat) (ex : Ex), ExR ex e → norm? (normR d.base ks sl' c'.st) (K ex) → Done w0 cb K e a' c'.w := by
                intro ks ex hex h7
                cases hn : normR d.base ks sl' c'.st with
                | none => rw [hn] at h7; exact h7.elim
                | some p =>
                  obtain ⟨sl3, st3⟩ := p
                  rw [hn] at h7
                  simp only [norm?] at h7
                  obtain ⟨c3, hw3, hst3, hr3, hx3, hs3, hg3⟩ := normR_sound h2 h3 h4 h5 (by omega) hn
                  rw [← hst3] at h7
                  exact ⟨ex, sl3, c3, hex, hw3, hr3, hx3, hs3, hg3, h6, h7⟩
              cases ex with
              | normal => exact fin d.out .normal h1 h7
              | exit i => exact fin d.out (.exit i) h1 h7
              | ret => exact fin d.rets .ret h1 h7
            · exact h7.elim
      | exit i =>
        cases e <;> first | exact h1.elim | skip
        exact ⟨.exit i, sl', c', h1, rfl, h2, h3, h4, h5, h6, h7⟩
      | ret =>
        cases e <;> first | exact h1.elim | skip
        exact ⟨.ret, sl', c', trivial, rfl, h2, h3, h4, h5, h6, h7⟩
    | node al ar =>
      simp only [exec] at h
      simp only [AnnOk] at hk
      refine plain hk.1 hk.2 h
    | _ =>
      simp only [exec] at h
      simp only [AnnOk] at hk
      exact plain hk.1 hk.2 h
  | .cond cnd x y, ann, c, cb, sl, a, K, hn, hk, hr, hx, hs, hg, hd, h => by
    simp only [exec] at h
    simp only [AnnOk] at hk
    split at h
    · next b e =>
      have hb := rdv_rel hs [] cnd (fun g hh => by simp at hh)
      rw [e] at hb
      simp only [RelV] at hb
      cases b with
      | true => exact wp_cond_true hb (exec_sound hC hD x ann.l c cb sl a K hn hk.1 hr hx hs hg hd h)
      | false => exact wp_cond_false hb (exec_sound hC hD y ann.r c cb sl a K hn hk.2 hr hx hs hg hd h)
    · exact h.elim
  | .block id b, ann, c, cb, sl, a, K, hn, hk, hr, hx, hs, hg, hd, h => by
    simp only [exec] at h
    refine wp_block (wp_mono (exec_sound hC hD b ann c cb sl a _ hn (by simpa only [AnnOk] using hk) hr hx hs hg hd h) fun e a' w' hq => ?_)
    obtain ⟨ex, sl', c', h1, rfl, h2, h3, h4, h5, h6, h7⟩ := hq
    cases ex with
    | normal =>
      cases e <;> first | exact h1.elim | skip
      exact ⟨.normal, sl', c', trivial, rfl, h2, h3, h4, h5, h6, h7⟩
    | exit i =>
      cases e <;> first | exact h1.elim | skip
      next j =>
      simp only [ExR] at h1
      subst h1
      simp only [Exit.inBlock]
      simp only at h7
      split
      · next hij =>
        rw [if_pos hij] at h7
        exact ⟨.normal, sl', c', trivial, rfl, h2, h3, h4, h5, h6, h7⟩
      · next hij =>
        rw [if_neg hij] at h7
        exact ⟨.exit i, sl', c', rfl, rfl, h2, h3, h4, h5, h6, h7⟩
    | ret =>
      cases e <;> first | exact h1.elim | skip
      exact ⟨.ret, sl', c', trivial, rfl, h2, h3, h4, h5, h6, h7⟩
  | .loop b, ann, c, cb, sl, a, K, hn, hk, hr, hx, hs, hg, hd, h => by
    -- rounds from a head
    have rounds : ∀ (an : Ann) (d : LoopD) (L0 : Nat), AnnOk P C D N an b → cb.st.length ≤ L0 → ∀ (n : Nat) (a : Act) (sl2 : List V) (c2 : Cfg), a.defers = [] → Rel w0 c2 → Ext cb c2 → SlR c2 sl2 a.tmps → GdIn [] sl2 →
        iterL (stepL (exec P C D an b) L0 d K) n sl2 c2.st → (Code.loop b).wp P (Done w0 cb K) a c2.w := by
      intro an d L0 hkb hL n a sl2 c2 hd hr2 hx2 hs2 hg2 h
      refine wp_loop_rounds n ?_
      induction n generalizing c2 sl2 a with
      | zero => exact h.elim
      | succ n ih =>
        rw [rounds_succ]
        simp only [iterL] at h
        refine wp_mono (exec_sound hC hD b an c2 cb sl2 a _ hn hkb hr2 hx2 hs2 hg2 hd h) fun e a' w' hq => ?_
        obtain ⟨ex, sl', c', h1, rfl, h2, h3, h4, h5, h6, h7⟩ := hq
        cases ex with
        | normal =>
          cases e <;> first | exact h1.elim | skip
          simp only at h7
          cases hn : normL L0 d.vecs d.keep sl' c'.st with
          | none => rw [hn] at h7; exact h7.elim
          | some p =>
            obtain ⟨sl3, st3⟩ := p
            rw [hn] at h7
            simp only [norm?] at h7
            obtain ⟨c3, hw3, hst3, hr3, hx3, hs3, hg3⟩ := normL_sound h2 h3 h4 h5 hL hn
            rw [← hst3] at h7
            simp only [Exit.then]
            rw [← hw3]
            exact ih (a := a') (sl2 := sl3) (c2 := c3) h6 hr3 hx3 hs3 hg3 h7
        | exit i =>
          cases e <;> first | exact h1.elim | skip
          simp only at h7
          cases hn : normL L0 d.vecs d.out sl' c'.st with
          | none => rw [hn] at h7; exact h7.elim
          | some p =>
            obtain ⟨sl3, st3⟩ := p
            rw [hn] at h7
            simp only [norm?] at h7
            obtain ⟨c3, hw3, hst3, hr3, hx3, hs3, hg3⟩ := normL_sound h2 h3 h4 h5 hL hn
            rw [← hst3] at h7
            exact ⟨.exit i, sl3, c3, h1, hw3, hr3, hx3, hs3, hg3, h6, h7⟩
        | ret =>
          cases e <;> first | exact h1.elim | skip
          simp only at h7
          cases hn : normR L0 d.rets sl' c'.st with
          | none => rw [hn] at h7; exact h7.elim
          | some p =>
            obtain ⟨sl3, st3⟩ := p
            rw [hn] at h7
            simp only [norm?] at h7
            obtain ⟨c3, hw3, hst3, hr3, hx3, hs3, hg3⟩ := normR_sound h2 h3 h4 h5 hL hn
            rw [← hst3] at h7
            exact ⟨.ret, sl3, c3, trivial, hw3, hr3, hx3, hs3, hg3, h6, h7⟩
    have enter : ∀ (d : LoopD) (F : List V → St), norm? (enterV d.vecs sl c.st) (fun sl1 st1 => norm? (normL c.st.length d.vecs d.keep sl1 st1) (F sl1)) →
        ∃ sl1 sl2 c2, c2.w = c.w ∧ Rel w0 c2 ∧ Ext cb c2 ∧ SlR c2 sl2 a.tmps ∧ GdIn [] sl2 ∧ F sl1 sl2 c2.st ∧ sl2 = setVs d.vecs c.st.length (keepS d.keep 0 sl1) ∧ c.st.length + d.vecs.length = c2.st.length := by
      intro d F h
      cases he : enterV d.vecs sl c.st with
      | none => rw [he] at h; exact h.elim
      | some p =>
        obtain ⟨sl1, st1⟩ := p
        rw [he] at h
        simp only [norm?] at h
        obtain ⟨c1, hw1, hst1, hr1, hx1, hs1, hg1, _⟩ := enterV_sound hr hx hs hg he
        rw [← hst1] at h
        cases hn : normL c.st.length d.vecs d.keep sl1 c1.st with
        | none => rw [hn] at h; exact h.elim
        | some p =>
          obtain ⟨sl2, st2⟩ := p
          rw [hn] at h
          simp only at h
          obtain ⟨c2, hw2, hst2, hr2, hx2, hs2, hg2⟩ := normL_sound hr1 hx1 hs1 hg1 hx.len hn
          obtain ⟨f1, f2⟩ := normL_form hn
          exact ⟨sl1, sl2, c2, hw2.trans hw1, hr2, hx2, hs2, hg2, by rw [hst2]; exact h, f1, by rw [hst2]; exact f2⟩
    cases ann with
    | loop d an =>
      simp only [exec] at h
      simp only [AnnOk] at hk
      obtain ⟨sl1, sl2, c2, hw, hr2, hx2, hs2, hg2, ⟨n, h⟩, _, _⟩ := enter d (fun _ sl2 st2 => ∃ n, iterL (stepL (exec P C D an b) c.st.length d K) n sl2 st2) h
      rw [← hw]
      exact rounds an d c.st.length hk hx.len n a sl2 c2 hd hr2 hx2 hs2 hg2 h
    | lift d len F =>
      simp only [exec] at h
      simp only [AnnOk] at hk
      obtain ⟨hris, an, hkb, hF⟩ := hk
      obtain ⟨sl1, sl2, c2, hw, hr2, hx2, hs2, hg2, h, f1, f2⟩ := enter d (fun sl1 _ st2 => if sl1.length = len then F (d.keep.map fun k => sl1.getD k .any) st2 K else False) h
      split at h
      · next hlen =>
        obtain ⟨n, h⟩ := hF _ _ c.st.length K f2 h
        rw [← hw]
        refine rounds an d c.st.length hkb hx.len n a sl2 c2 hd hr2 hx2 hs2 hg2 ?_
        rw [f1, keepS_bld sl1 d.keep 0 hris, hlen]
        exact h
      · exact h.elim
    | _ => simp [exec] at h
  | .exit i, ann, c, cb, sl, a, K, hn, hk, hr, hx, hs, hg, hd, h => by
    simp only [exec] at h
    exact wp_exit ⟨.exit i, sl, c, rfl, rfl, hr, hx, hs, hg, hd, h⟩
  | .ret, ann, c, cb, sl, a, K, hn, hk, hr, hx, hs, hg, hd, h => by
    simp only [exec] at h
    exact wp_ret ⟨.ret, sl, c, trivial, rfl, hr, hx, hs, hg, hd, h⟩
  | .rangeFunc .., ann, c, cb, sl, a, K, hn, hk, hr, hx, hs, hg, hd, h => by simp [exec] at h
  | .scope _, ann, c, cb, sl, a, K, hn, hk, hr, hx, hs, hg, hd, h => by simp [exec] at h
  | .label _, ann, c, cb, sl, a, K, hn, hk, hr, hx, hs, hg, hd, h => by simp [exec] at h
  | .goto _, ann, c, cb, sl, a, K, hn, hk, hr, hx, hs, hg, hd, h => by simp [exec] at h
  | .refuse _, ann, c, cb, sl, a, K, hn, hk, hr, hx, hs, hg, hd, h => by simp [exec] at h

end Eng
end Go.Proofs.Ytjlejiefkmimiaa

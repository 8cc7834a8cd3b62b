/-
  Regions whose order is open: any order that the edges allow comes to what the text's order comes to. Conditions: none.
-/
import Derived.Test.YtkpplfghhciacaaDoorEngQ
set_option linter.unusedVariables false
set_option linter.unusedSimpArgs false
namespace Go.Proofs.YtkpplfghhciacaaDoor
namespace Eng
open Go.RowKit

/-- The operation h, earlier in the text, may run behind i. -/
def kindOk (P : Program) (Γ : Ctx) (h i : Op) : Bool := (detK h && stillK P Γ i) || (stillK P Γ h && detK i) || pureK h || pureK i

/-- Operations that, if anything, add one object at the end. -/
def growK : Op → Bool
  | .alloc _ | .box _ _ | .makeSlice _ _ _ => true
  | _ => false

/-- Slices whose elements have no rows in them. -/
def flatB (P : Program) (t : TypeId) : Bool := match P.underlying t with
  | some (.slice e) => match tyOf P 20 e with
    | some τ => flatT τ
    | none => false
  | _ => false

/-- These too: slices that are built of flat elements. -/
def growP (P : Program) (o : Op) : Bool := growK o || (match o with
  | .buildSlice t _ _ => flatB P t
  | _ => false)

/-- The same, or the earlier one only looks and the later one only adds. -/
def kindOk2 (P : Program) (Γ : Ctx) (h i : Oper) : Bool := kindOk P Γ h.op i.op || (detK h.op && (growP P i.op && h.guard.isNone))

structure PairOk (P : Program) (Γ : Ctx) (ops : List Oper) (h i : Oper) : Prop where
  apart : Apart ops h i
  kind : kindOk2 P Γ h i = true

section
variable {P : Program} {C : Caller} {Γ : Ctx} {G : List Nat} {ops : List Oper}

/-- What an operation of its own value owes. -/
def Owes (P : Program) (C : Caller) (Γ : Ctx) (G : List Nat) (ops : List Oper) (i : Oper) (sl : List V) (st : List Ob) : Prop := R P (Cx P C Γ) G ops i sl st fun _ _ => True

theorem R_owes {i : Oper} {sl : List V} {st : List Ob} {kk : V → List Ob → Prop} (h : R P (Cx P C Γ) G ops i sl st kk) : Owes P C Γ G ops i sl st := R_mono (fun _ _ _ => trivial) h

/-- An operation of its own value, as a value. -/
theorem det_val {i : Oper} {sl : List V} {st : List Ob} (hi : detK i.op = true) (ho : Owes P C Γ G ops i sl st) : ∃ v, okv ops i v ∧ ∀ kk, R P (Cx P C Γ) G ops i sl st kk ↔ kk v st := by
  obtain ⟨p, v, hv⟩ := R_det (P := P) (Γ := Γ) (G := G) (ops := ops) hi sl st
  have hp : p := ((hv _).1 ho).1
  refine ⟨v, ((hv _).1 (R_okv ho)).2.1, fun kk => ?_⟩
  rw [hv]
  exact ⟨fun h => h.2, fun h => ⟨hp, h⟩⟩

/-- The same objects, or one more. -/
def Grown (st st' : List Ob) : Prop := st' = st ∨ ∃ ob, st' = st ++ [ob]

theorem get_grown {st : List Ob} {ob x : Ob} {r : Nat} (h : st[r]? = some x) : (st ++ [ob])[r]? = some x := by
  rw [List.getElem?_append_left (List.getElem?_eq_some_iff.1 h).1]
  exact h

theorem cellsAt_grown {st : List Ob} {ob : Ob} {v : V} {vs : List V} (h : cellsAt st v = some vs) : cellsAt (st ++ [ob]) v = some vs := by
  cases v with
  | cl r i =>
    simp only [cellsAt] at h ⊢
    split at h
    · next cs e => rw [get_grown e]; exact h
    · cases h
  | el r i j =>
    simp only [cellsAt] at h ⊢
    split at h
    · next t f xs e => rw [get_grown e]; exact h
    · cases h
  | _ => first | exact h | (simp [cellsAt] at h; done)

theorem poolAt_grown {ob : Ob} : ∀ {st : List Ob} {i : Nat} {pm : Nat × Pool}, poolAt i st = some pm → poolAt i (st ++ [ob]) = some pm
  | x :: st, i, pm, h => by
    cases x with
    | pool m => exact h
    | _ => exact poolAt_grown (st := st) h

theorem alen_grown {st : List Ob} {ob : Ob} {t : TypeId} {x : V} {n : Int} (h : alen P st t x = some n) : alen P (st ++ [ob]) t x = some n := by
  unfold alen at h ⊢
  split at h
  · next e => (try simp only [e]); exact h
  · next r e =>
    try simp only [e]
    split at h
    · next e2 => rw [get_grown e2]; exact h
    · cases h
  · next r _ n e =>
    try simp only [e]
    split at h
    · next e2 => rw [get_grown e2]; exact h
    · cases h
  · next e => (try simp only [e]); exact h
  · next e => (try simp only [e]); exact h
  · next e => (try simp only [e]); exact h
  · next e => (try simp only [e]); exact h
  · cases h

theorem aload_grown {st : List Ob} {ob : Ob} {t : TypeId} {a v : V} (h : aload P st t a = some v) : aload P (st ++ [ob]) t a = some v := by
  unfold aload at h ⊢
  split at h
  · next e => rw [cellsAt_grown e]; exact h
  · cases h

theorem load_grown {st : List Ob} {ob : Ob} {t : TypeId} {a : V} {r : Option Prop × V}
    (h : (match aload P st t a with | some v => some (none, v) | none => pload P st t a) = some r) : (match aload P (st ++ [ob]) t a with | some v => some (none, v) | none => pload P (st ++ [ob]) t a) = some r := by
  cases hl : aload P st t a with
  | some v => rw [hl] at h; rw [aload_grown hl]; exact h
  | none =>
    rw [hl] at h
    cases a with
    | pt a i =>
      have : aload P (st ++ [ob]) t (.pt a i) = none := rfl
      rw [this]
      simp only [pload] at h ⊢
      split at h
      · next q m e => rw [poolAt_grown e]; exact h
      · cases h
    | el r i j =>
      simp only [pload] at h
      split at h
      · next cs e =>
        have e' := get_grown (ob := ob) e
        have hz : aload P (st ++ [ob]) t (.el r i j) = none := by simp [aload, cellsAt, e']
        rw [hz]
        simp only [pload, e']
        exact h
      · cases h
    | _ => simp [pload] at h

theorem aelt_grown {st : List Ob} {ob : Ob} {s : Nat} {n : Int} {x v : V} (h : aelt st s n x = some v) : aelt (st ++ [ob]) s n x = some v := by
  cases x with
  | cl r k =>
    simp only [aelt] at h ⊢
    split at h
    · next cs e => simp only [get_grown e]; exact h
    · cases h
  | _ => exact h

theorem aindexAddr_grown {st : List Ob} {ob : Ob} {t : TypeId} {x i : V} {r : Option Prop × V} (h : aindexAddr P st t x i = some r) : aindexAddr P (st ++ [ob]) t x i = some r := by
  unfold aindexAddr at h ⊢
  split at h
  · next k n =>
    try simp only
    split at h
    · next e hu =>
      try simp only [hu]
      split at h
      · next inf hi =>
        try simp only [hi]
        split at h
        · exact h
        · next rr =>
          split at h
          · next e2 => simp only [get_grown e2]; exact h
          · cases h
        · next rr lo m =>
          split at h
          · next e2 => simp only [get_grown e2]; exact h
          · cases h
        · exact h
        · cases h
      · cases h
    · next len e hu =>
      try simp only [hu]
      split at h
      · next inf hi =>
        try simp only [hi]
        split at h
        · exact h
        · split at h
          · next v hv => simp only [aelt_grown hv]; exact h
          · cases h
      · cases h
    · cases h
  · cases h

theorem indexAddr_grown {st : List Ob} {ob : Ob} {t : TypeId} {x i : V} {r : Option Prop × V}
    (h : (match aindexAddr P st t x i with | some r => some r | none => pindexAddr P st t x i) = some r) : (match aindexAddr P (st ++ [ob]) t x i with | some r => some r | none => pindexAddr P (st ++ [ob]) t x i) = some r := by
  cases hl : aindexAddr P st t x i with
  | some v => rw [hl] at h; rw [aindexAddr_grown hl]; exact h
  | none =>
    rw [hl] at h
    simp only at h
    have hn : aindexAddr P (st ++ [ob]) t x i = none := by
      unfold pindexAddr at h
      split at h
      · next hd k n =>
        split at h
        · next e hu =>
          split at h
          · next inf _ _ hi _ => simp [aindexAddr, hu, hi]
          · cases h
        · cases h
      · cases h
    rw [hn]
    simp only
    unfold pindexAddr at h ⊢
    split at h
    · next hd k n =>
      try simp only
      split at h
      · next e hu =>
        try simp only [hu]
        split at h
        · next inf q m hi hm => simp only [hi, poolAt_grown hm]; exact h
        · cases h
      · cases h
    · cases h

theorem aval_grown {st : List Ob} {ob : Ob} {fs : Facts} {ρ : Facts → Operand → V} {o : Op} {r : Option Prop × V} (hd : detK o = true) (h : aval P st fs ρ o = some r) : aval P (st ++ [ob]) fs ρ o = some r := by
  cases o with
  | load t a => exact load_grown h
  | indexAddr t x i => exact indexAddr_grown h
  | call cl =>
    obtain ⟨callee, args, ts⟩ := cl
    cases callee with
    | builtin b =>
      cases b <;> first | (simp [detK, pureK] at hd; done) | skip
      all_goals
        simp only [aval] at h ⊢
        split at h
        · next v e =>
          have e2 : ∀ b, abi P st b ts.toList (args.toList.map (ρ fs)) = some v → abi P (st ++ [ob]) b ts.toList (args.toList.map (ρ fs)) = some v := fun b e => by
            unfold abi at e ⊢
            split at e
            · next t r x r' e1 e2 =>
              split at e
              · next n hn => simp only [e1, e2, alen_grown hn]; exact e
              · cases e
            · next e1 => (try simp only [e1]); exact e
            · next e1 => (try simp only [e1]); exact e
            · cases e
          rw [e2 _ e]
          exact h
        · cases h
    | _ => simp [detK, pureK] at hd
  | slice t x lo hi mx =>
    cases mx with
    | none => exact h
    | some m => simp [detK, pureK] at hd
  | pick c a b =>
    cases c <;> exact h
  | _ => exact h

/-- What only looks sees the same behind what only adds. -/
theorem det_grown {h : Oper} {sl : List V} {st : List Ob} (hd : detK h.op = true) (hg : h.guard = none) (ho : Owes P C Γ G ops h sl st) :
    ∃ v, okv ops h v ∧ ∀ st2, Grown st st2 → ∀ kk, R P (Cx P C Γ) G ops h sl st2 kk ↔ kk v st2 := by
  unfold Owes at ho
  simp only [R, hg] at ho
  cases hv : aval P st [] (rdv sl) h.op with
  | some pv =>
    obtain ⟨p, v⟩ := pv
    refine ⟨nogd v, fun g w x e => absurd e nogd_ne, fun st2 hst kk => ?_⟩
    have hv2 : aval P st2 [] (rdv sl) h.op = some (p, v) := by
      rcases hst with rfl | ⟨ob, rfl⟩
      · exact hv
      · exact aval_grown hd hv
    simp only [R, hg]
    unfold aop at ho ⊢
    rw [hv] at ho
    rw [hv2]
    cases p with
    | none => exact Iff.rfl
    | some p => exact ⟨fun g => g.2, fun g => ⟨ho.1, g⟩⟩
  | none =>
    unfold aop at ho
    rw [hv] at ho
    simp only at ho
    cases hop : h.op with
    | pick c a b =>
      rw [hop] at ho hv
      cases c with
      | tmp s =>
        simp only [aeff] at ho
        split at ho
        · next t e =>
          have key : ∀ st2 kk, R P (Cx P C Γ) G ops h sl st2 kk ↔ kk (nogd (bif t then rdv sl [(s, true)] a else rdv sl [(s, false)] b)) st2 := fun st2 kk => by
            have hv2 : aval P st2 [] (rdv sl) (.pick (.tmp s) a b) = none := hv
            simp only [R, hg, hop]
            unfold aop
            rw [hv2]
            simp only [aeff, e]
            cases t <;> exact Iff.rfl
          exact ⟨_, fun g w x e => absurd e nogd_ne, fun st2 _ kk => key st2 kk⟩
        · exact ho.elim
      | _ => rw [hop] at hd; simp [detK, pureK] at hd
    | call cl =>
      rw [hop] at ho hd
      obtain ⟨callee, args, ts⟩ := cl
      cases callee with
      | builtin b => cases b <;> first | (simp [detK, pureK] at hd; done) | (simp [aeff] at ho; done)
      | _ => simp [detK, pureK] at hd
    | _ => rw [hop] at ho hd; first | (simp [detK, pureK] at hd; done) | (simp [aeff] at ho; done)

def notRo : V → Prop
  | .ro _ _ => False
  | _ => True

theorem frzs_none : ∀ (cs : List V) (st : List Ob), (∀ v, v ∈ (frzs cs st).1 → notRo v) → (frzs cs st).2 = st
  | [], _, _ => rfl
  | v :: cs, st, h => by
    have plain : ∀ w, frzs (v :: cs) st = (w :: (frzs cs st).1, (frzs cs st).2) → (frzs (v :: cs) st).2 = st := by
      intro w e
      rw [e] at h ⊢
      exact frzs_none cs st fun x hx => h x (List.mem_cons_of_mem _ hx)
    cases v with
    | vec r =>
      cases hr : st[r]? with
      | none => exact plain .any (by simp only [frzs, hr])
      | some ob =>
        cases ob with
        | vec t f xs =>
          simp only [frzs, hr] at h
          exact (h (.ro t xs) (by simp)).elim
        | _ => exact plain .any (by simp only [frzs, hr])
    | vw r lo n =>
      cases hr : st[r]? with
      | none => exact plain .any (by simp only [frzs, hr])
      | some ob =>
        cases ob with
        | vec t f xs =>
          simp only [frzs, hr] at h
          exact (h (.ro t ((xs.drop lo).take n)) (by simp)).elim
        | _ => exact plain .any (by simp only [frzs, hr])
    | _ => exact plain _ rfl

theorem dec_flat : ∀ {t : Ty}, flatT t = true → ∀ {l : List V} {y : t.den} {r : List V}, dec t l = some (y, r) → ∃ l1, l = l1 ++ r ∧ ∀ v, v ∈ l1 → notRo v
  | .int k, _, l, y, r, h => by
    simp only [dec] at h
    split at h
    · split at h
      · cases h; exact ⟨[_], rfl, fun v hv => by rw [List.mem_singleton.1 hv]; trivial⟩
      · cases h
    · cases h
  | .bool, _, l, y, r, h => by
    simp only [dec] at h
    split at h
    · cases h; exact ⟨[_], rfl, fun v hv => by rw [List.mem_singleton.1 hv]; trivial⟩
    · cases h
  | .str, _, l, y, r, h => by
    simp only [dec] at h
    split at h
    · cases h; exact ⟨[_], rfl, fun v hv => by rw [List.mem_singleton.1 hv]; trivial⟩
    · cases h
  | .unit, _, l, y, r, h => by
    simp only [dec, Option.some.injEq, Prod.mk.injEq] at h
    obtain ⟨_, rfl⟩ := h
    exact ⟨[], rfl, fun v hv => by cases hv⟩
  | .pair a b, hf, l, y, r, h => by
    simp only [flatT, Bool.and_eq_true] at hf
    simp only [dec] at h
    split at h
    · next x r1 e1 =>
      split at h
      · next y2 r2 e2 =>
        simp only [Option.some.injEq, Prod.mk.injEq] at h
        obtain ⟨_, rfl⟩ := h
        obtain ⟨l1, rfl, h1⟩ := dec_flat hf.1 e1
        obtain ⟨l2, rfl, h2⟩ := dec_flat hf.2 e2
        refine ⟨l1 ++ l2, by simp, fun v hv => ?_⟩
        rcases List.mem_append.1 hv with hv | hv
        · exact h1 v hv
        · exact h2 v hv
      · cases h
    · cases h
  | .slice e, hf, _, _, _, _ => by simp [flatT] at hf
  | .hnd, _, l, y, r, h => by
    simp only [dec] at h
    split at h
    · cases h; exact ⟨[_], rfl, fun v hv => by rw [List.mem_singleton.1 hv]; trivial⟩
    · cases h; exact ⟨[_], rfl, fun v hv => by rw [List.mem_singleton.1 hv]; trivial⟩
    · cases h

theorem decRows_flat {t : Ty} (hf : flatT t = true) : ∀ {n : Nat} {l : List V} {ys : List t.den}, decRows t n l = some ys → ∀ v, v ∈ l → notRo v
  | 0, [], _, _, v, hv => by cases hv
  | 0, _ :: _, _, h, _, _ => by simp [decRows] at h
  | n + 1, l, ys, h, v, hv => by
    simp only [decRows] at h
    split at h
    · next y r e =>
      split at h
      · next ys' hys =>
        obtain ⟨l1, rfl, h1⟩ := dec_flat hf e
        rcases List.mem_append.1 hv with hv | hv
        · exact h1 v hv
        · exact decRows_flat hf hys v hv
      · cases h
    · cases h

theorem hndT_flat : ∀ {t : Ty}, flatT t = true → hndT t = t
  | .int _, _ => rfl
  | .bool, _ => rfl
  | .str, _ => rfl
  | .unit, _ => rfl
  | .pair a b, h => by
    simp only [flatT, Bool.and_eq_true] at h
    simp only [hndT, hndT_flat h.1, hndT_flat h.2]
  | .slice e, h => by simp [flatT] at h
  | .hnd, _ => rfl

theorem abuild_grown {st : List Ob} {t : TypeId} {n : Nat} {parts : List (Nat × V)} {v : V} {st' : List Ob} (hf : flatB P t = true) (h : abuildSlice P st t n parts = some (v, st')) : Grown st st' := by
  unfold flatB at hf
  unfold abuildSlice at h
  cases hu : P.underlying t with
  | none => rw [hu] at hf; cases hf
  | some u =>
    rw [hu] at hf h
    cases u with
    | slice e =>
      simp only at hf h
      cases ht : tyOf P 20 e with
      | none => rw [ht] at hf; cases hf
      | some τ =>
        rw [ht] at hf
        simp only at hf
        have hty : tyP P st e = some τ := by
          unfold tyP
          rw [ht]
          cases poolAt 0 st with
          | none => rfl
          | some p => simp only [hndT_flat hf]
        rw [hty] at h
        cases hz : zeroV P e with
        | none => rw [hz] at h; simp only at h; cases h
        | some zs =>
          rw [hz] at h
          simp only at h
          split at h
          · split at h
            · split at h
              · next cs _ =>
                split at h
                · next ys hys =>
                  have hfr := frzs_none cs st (decRows_flat hf hys)
                  rw [hfr] at h
                  cases h
                  exact .inr ⟨_, rfl⟩
                · cases h
              · cases h
            · cases h
          · cases h
    | _ => simp at hf

theorem aop_grown {st : List Ob} {fs : Facts} {sl : List V} {o : Op} (hk : growP P o = true) {k : V → List Ob → Prop} (h : aop P (Cx P C Γ) st fs (rdv sl) o k) : aop P (Cx P C Γ) st fs (rdv sl) o fun v st' => Grown st st' ∧ k v st' := by
  cases o with
  | alloc t =>
    simp only [aop, aval, aeff] at h ⊢
    split at h
    · exact ⟨.inr ⟨_, rfl⟩, h⟩
    · exact h.elim
  | box t x =>
    simp only [aop, aval, aeff] at h ⊢
    split at h
    · exact ⟨.inr ⟨_, rfl⟩, h⟩
    · exact h.elim
  | makeSlice t l c =>
    simp only [aop, aval, aeff] at h ⊢
    split at h
    · next p v st' e =>
      have hg : Grown st st' := by
        unfold amake at e
        split at e
        · split at e
          · split at e
            · split at e
              · cases e; exact .inr ⟨_, rfl⟩
              · cases e
            · cases e
          · cases e
        · cases e
      cases p with
      | none => exact ⟨hg, h⟩
      | some p => exact ⟨h.1, hg, h.2⟩
    · exact h.elim
  | buildSlice t n parts =>
    simp only [aop, aval, aeff] at h ⊢
    split at h
    · next v st' e => exact ⟨abuild_grown (by simpa [growP, growK] using hk) e, h⟩
    · exact h.elim
  | _ => simp [growP, growK] at hk

theorem R_grown {o : Oper} (hk : growP P o.op = true) {sl : List V} {st : List Ob} {kk : V → List Ob → Prop} (h : R P (Cx P C Γ) G ops o sl st kk) : R P (Cx P C Γ) G ops o sl st fun v st' => Grown st st' ∧ kk v st' := by
  cases hg : o.guard with
  | none => simp only [R, hg] at *; exact aop_grown hk h
  | some jw =>
    obtain ⟨j, w⟩ := jw
    cases hgs : gslot ops j with
    | none => simp [R, hg, hgs] at h
    | some g =>
      cases hc : conds sl 8 g w with
      | none => simp [R, hg, hgs, hc] at h
      | some fb =>
        obtain ⟨fs, bs⟩ := fb
        by_cases hG : G.contains g = true
        · have alt : (bif okAll bs then aop P (Cx P C Γ) st fs (rdv sl) o.op (fun v st' => kk (nogd v) st') else kk (.x undef) st) →
              (bif okAll bs then aop P (Cx P C Γ) st fs (rdv sl) o.op (fun v st' => Grown st st' ∧ kk (nogd v) st') else Grown st st ∧ kk (.x undef) st) := by
            cases okAll bs with
            | true => exact aop_grown hk
            | false => exact fun h => ⟨.inl rfl, h⟩
          have hv : aval P st fs (rdv sl) o.op = none := by
            cases ho : o.op with
            | alloc t => rfl
            | box t x => rfl
            | makeSlice t l c => rfl
            | buildSlice t n parts => rfl
            | _ => rw [ho] at hk; simp [growP, growK] at hk
          cases hd : o.dst with
          | none => simp only [R, hg, hgs, hc, hG, if_true, hd, hv] at *; exact alt h
          | some d => simp only [R, hg, hgs, hc, hG, if_true, hd, hv] at *; exact alt h
        · simp only [R, hg, hgs, hc, if_neg hG] at h

theorem swap {h i : Oper} (hm : h ∈ ops) (hp : PairOk P Γ ops h i) {rest : List Oper} {sl : List V} {st : List Ob} {K : St} (hs : GdS ops sl)
    (ho : detK i.op = true → Owes P C Γ G ops i sl st) (hx : aops P (Cx P C Γ) G ops (h :: i :: rest) sl st K) : aops P (Cx P C Γ) G ops (i :: h :: rest) sl st K := by
  rw [aops_cons] at *
  have ha := hp.apart
  have hai : Apart ops i h := ⟨ha.h2, ha.h1, fun d e1 e2 => ha.h3 d e2 e1⟩
  -- i behind h looks at what it looks at
  have ci : ∀ v, okv ops h v → ∀ st1 kk, R P (Cx P C Γ) G ops i (putS G h.dst v sl) st1 kk = R P (Cx P C Γ) G ops i sl st1 kk := fun v hv st1 kk => R_congr (alike_put ha hs v) (gds_put hm hs hv) kk
  by_cases hgr : detK h.op = true ∧ growP P i.op = true ∧ h.guard = none
  · obtain ⟨hd, hki, hgn⟩ := hgr
    obtain ⟨vh, hvh, hval⟩ := det_grown (h := h) hd hgn (R_owes hx)
    have h1 := (hval _ (.inl rfl) _).1 hx
    rw [aops_cons, ci vh hvh] at h1
    refine R_mono (fun vi st2 g => ?_) (R_grown hki (R_okv h1))
    obtain ⟨hgro, hvi, g⟩ := g
    rw [aops_cons]
    have ch : R P (Cx P C Γ) G ops h sl st2 (fun v st' => aops P (Cx P C Γ) G ops rest (putS G h.dst v (putS G i.dst vi sl)) st' K) = R P (Cx P C Γ) G ops h (putS G i.dst vi sl) st2 (fun v st' => aops P (Cx P C Γ) G ops rest (putS G h.dst v (putS G i.dst vi sl)) st' K) :=
      R_congr (fun t ht => (alike_put hai hs vi t ht).symm) hs _
    rw [← ch, hval st2 hgro]
    rw [← put_comm ha hvh hvi sl]
    exact g
  have hkind : kindOk P Γ h.op i.op = true := by
    have hk := hp.kind
    simp only [kindOk2, Bool.or_eq_true, Bool.and_eq_true, Option.isNone_iff_eq_none] at hk
    exact hk.resolve_right hgr
  by_cases hhd : detK h.op = true ∧ (stillK P Γ i.op = true ∨ pureK h.op = true)
  · obtain ⟨hd, hsi⟩ := hhd
    obtain ⟨vh, hvh, hval⟩ := det_val (i := h) hd (R_owes hx)
    have h1 := (hval _).1 hx
    rw [aops_cons, ci vh hvh] at h1
    -- now i, then h
    have h2 : R P (Cx P C Γ) G ops i sl st fun vi st2 => okv ops i vi ∧ (pureK h.op = true ∨ st2 = st) ∧ aops P (Cx P C Γ) G ops rest (putS G i.dst vi (putS G h.dst vh sl)) st2 K := by
      have h3 := R_okv h1
      rcases hsi with hst | hpu
      · exact R_mono (fun v st' g => ⟨g.2.1, .inr g.1, g.2.2⟩) (R_still hst h3)
      · exact R_mono (fun v st' g => ⟨g.1, .inl hpu, g.2⟩) h3
    refine R_mono (fun vi st2 g => ?_) h2
    obtain ⟨hvi, hst, g⟩ := g
    rw [aops_cons]
    have ch : R P (Cx P C Γ) G ops h sl st2 (fun v st' => aops P (Cx P C Γ) G ops rest (putS G h.dst v (putS G i.dst vi sl)) st' K) = R P (Cx P C Γ) G ops h (putS G i.dst vi sl) st2 (fun v st' => aops P (Cx P C Γ) G ops rest (putS G h.dst v (putS G i.dst vi sl)) st' K) :=
      R_congr (fun t ht => (alike_put hai hs vi t ht).symm) hs _
    rw [← ch]
    have hb : R P (Cx P C Γ) G ops h sl st fun vh' _ => aops P (Cx P C Γ) G ops rest (putS G h.dst vh' (putS G i.dst vi sl)) st2 K := by
      rw [hval]
      rw [← put_comm ha hvh hvi sl]
      exact g
    rcases hst with hpu | rfl
    · exact (R_pure hpu sl st st2 _).2 hb
    · rw [hval] at hb ⊢
      exact hb
  · have hki : detK i.op = true ∧ (stillK P Γ h.op = true ∨ pureK i.op = true) := by
      have hk := hkind
      have pd : ∀ o, pureK o = true → detK o = true := fun o ho => by simp [detK, ho]
      have ds : ∀ o, detK o = true → stillK P Γ o = true := fun o ho => by simp [stillK, ho]
      simp only [kindOk, Bool.or_eq_true, Bool.and_eq_true] at hk
      rcases hk with ((⟨a, b⟩ | ⟨a, b⟩) | a) | a
      · exact absurd ⟨a, .inl b⟩ hhd
      · exact ⟨b, .inl a⟩
      · exact absurd ⟨pd _ a, .inr a⟩ hhd
      · exact ⟨pd _ a, .inr a⟩
    obtain ⟨hdi, hsh⟩ := hki
    obtain ⟨vi, hvi, hval⟩ := det_val (i := i) hdi (ho hdi)
    rw [hval, aops_cons]
    have h1 : R P (Cx P C Γ) G ops h sl st fun vh st1 => okv ops h vh ∧ (pureK i.op = true ∨ st1 = st) ∧ aops P (Cx P C Γ) G ops (i :: rest) (putS G h.dst vh sl) st1 K := by
      have h3 := R_okv hx
      rcases hsh with hst | hpu
      · exact R_mono (fun v st' g => ⟨g.2.1, .inr g.1, g.2.2⟩) (R_still hst h3)
      · exact R_mono (fun v st' g => ⟨g.1, .inl hpu, g.2⟩) h3
    have h2 : R P (Cx P C Γ) G ops h sl st fun vh st1 => aops P (Cx P C Γ) G ops rest (putS G h.dst vh (putS G i.dst vi sl)) st1 K := by
      refine R_mono (fun vh st1 g => ?_) h1
      obtain ⟨hvh, hst, g⟩ := g
      rw [aops_cons, ci vh hvh] at g
      rw [← put_comm ha hvh hvi sl]
      rcases hst with hpu | rfl
      · exact (hval _).1 ((R_pure hpu sl st st1 _).1 g)
      · exact (hval _).1 g
    rw [← R_congr (P := P) (G := G) (C := Cx P C Γ) (st := st) (fun t ht => (alike_put hai hs vi t ht).symm) hs]
    exact h2

/-- i, moved ahead of what stands before it. -/
theorem front {i : Oper} (him : i ∈ ops) : ∀ (l1 : List Oper) (l2 : List Oper) (sl : List V) (st : List Ob) (K : St), (∀ h, h ∈ l1 → h ∈ ops ∧ PairOk P Γ ops h i) → GdS ops sl →
    (detK i.op = true → Owes P C Γ G ops i sl st) → aops P (Cx P C Γ) G ops (l1 ++ i :: l2) sl st K → aops P (Cx P C Γ) G ops (i :: (l1 ++ l2)) sl st K
  | [], l2, sl, st, K, _, _, _, h => h
  | h :: l1, l2, sl, st, K, hl, hs, ho, hx => by
    obtain ⟨hm, hp⟩ := hl h (by simp)
    refine swap hm hp hs ho ?_
    rw [List.cons_append, aops_cons] at hx
    rw [aops_cons]
    have h1 := R_okv hx
    -- what i owes is the same behind h
    by_cases hdi : detK i.op = true
    · have h2 : R P (Cx P C Γ) G ops h sl st fun v st' => (okv ops h v ∧ aops P (Cx P C Γ) G ops (l1 ++ i :: l2) (putS G h.dst v sl) st' K) ∧ (st' = st ∨ pureK i.op = true) := by
        have hk := hp.kind
        simp only [kindOk2, kindOk, Bool.or_eq_true, Bool.and_eq_true] at hk
        have pd : ∀ o, pureK o = true → detK o = true := fun o ho => by simp [detK, ho]
        have ds : ∀ o, detK o = true → stillK P Γ o = true := fun o ho => by simp [stillK, ho]
        have : stillK P Γ h.op = true ∨ pureK i.op = true := by
          rcases hk with (((⟨a, b⟩ | ⟨a, b⟩) | a) | a) | ⟨a, b⟩
          · exact .inl (ds _ a)
          · exact .inl a
          · exact .inl (ds _ (pd _ a))
          · exact .inr a
          · exact .inl (ds _ a)
        rcases this with hst | hpu
        · exact R_mono (fun v st' g => ⟨g.2, .inl g.1⟩) (R_still hst h1)
        · exact R_mono (fun v st' g => ⟨g, .inr hpu⟩) h1
      refine R_mono (fun v st' g => ?_) h2
      obtain ⟨⟨hv, g⟩, hst⟩ := g
      refine front him l1 l2 _ st' K (fun x hx => hl x (by simp [hx])) (gds_put hm hs hv) (fun _ => ?_) g
      unfold Owes
      rw [R_congr (alike_put hp.apart hs v) (gds_put hm hs hv)]
      rcases hst with rfl | hpu
      · exact ho hdi
      · exact (R_pure hpu sl st st' _).2 (ho hdi)
    · refine R_mono (fun v st' g => ?_) h1
      exact front him l1 l2 _ st' K (fun x hx => hl x (by simp [hx])) (gds_put hm hs g.1) (fun e => absurd e hdi) g.2

/-- What i owes is owed behind all that stands before it in the text, and so now. -/
theorem owes_behind {i : Oper} (hdi : detK i.op = true) : ∀ (l1 : List Oper) (l2 : List Oper) (sl : List V) (st : List Ob) (K : St), (∀ h, h ∈ l1 → h ∈ ops ∧ PairOk P Γ ops h i) → GdS ops sl →
    aops P (Cx P C Γ) G ops (l1 ++ i :: l2) sl st K → aops P (Cx P C Γ) G ops l1 sl st fun _ _ => Owes P C Γ G ops i sl st
  | [], l2, sl, st, K, _, _, h => by
    rw [List.nil_append, aops_cons] at h
    exact R_owes h
  | h :: l1, l2, sl, st, K, hl, hs, hx => by
    obtain ⟨hm, hp⟩ := hl h (by simp)
    rw [List.cons_append, aops_cons] at hx
    rw [aops_cons]
    have h1 := R_okv hx
    have hk := hp.kind
    simp only [kindOk2, kindOk, Bool.or_eq_true, Bool.and_eq_true] at hk
    have pd : ∀ o, pureK o = true → detK o = true := fun o ho => by simp [detK, ho]
    have ds : ∀ o, detK o = true → stillK P Γ o = true := fun o ho => by simp [stillK, ho]
    have hor : stillK P Γ h.op = true ∨ pureK i.op = true := by
      rcases hk with (((⟨a, b⟩ | ⟨a, b⟩) | a) | a) | ⟨a, b⟩
      · exact .inl (ds _ a)
      · exact .inl a
      · exact .inl (ds _ (pd _ a))
      · exact .inr a
      · exact .inl (ds _ a)
    have h2 : R P (Cx P C Γ) G ops h sl st fun v st' => (okv ops h v ∧ aops P (Cx P C Γ) G ops (l1 ++ i :: l2) (putS G h.dst v sl) st' K) ∧ (st' = st ∨ pureK i.op = true) := by
      rcases hor with hst | hpu
      · exact R_mono (fun v st' g => ⟨g.2, .inl g.1⟩) (R_still hst h1)
      · exact R_mono (fun v st' g => ⟨g, .inr hpu⟩) h1
    refine R_mono (fun v st' g => ?_) h2
    obtain ⟨⟨hv, g⟩, hst⟩ := g
    have := owes_behind hdi l1 l2 _ st' K (fun x hx => hl x (by simp [hx])) (gds_put hm hs hv) g
    refine aops_mono l1 _ _ _ _ (fun _ _ ho => ?_) this
    unfold Owes at *
    rw [R_congr (alike_put hp.apart hs v) (gds_put hm hs hv)] at ho
    rcases hst with rfl | hpu
    · exact ho
    · exact (R_pure hpu sl st st' _).1 ho

end

end Eng
end Go.Proofs.YtkpplfghhciacaaDoor

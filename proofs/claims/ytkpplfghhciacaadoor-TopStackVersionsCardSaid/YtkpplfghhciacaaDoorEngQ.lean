/-
  Operations that do not meddle with each other: what they look at, and how their writes commute. Conditions: none.
-/
import Derived.Test.YtkpplfghhciacaaDoorEngP
set_option linter.unusedVariables false
set_option linter.unusedSimpArgs false
namespace Go.Proofs.YtkpplfghhciacaaDoor
namespace Eng
open Go.RowKit

/-- A slot, the slots that guard what writes it, and so on. -/
def gch (ops : List Oper) : Nat → Nat → List Nat
  | 0, t => [t]
  | n + 1, t => t :: ops.flatMap fun o => if o.dst = some t then (match o.guard with
    | some (j, _) => (match gslot ops j with
      | some g => gch ops n g
      | none => [])
    | none => []) else []

def tmpsOf (o : Op) : List Nat := o.operands.toList.filterMap fun | .tmp t => some t | _ => none

def gsOf (ops : List Oper) (o : Oper) : List Nat := match o.guard with
  | some (j, _) => (match gslot ops j with
    | some g => [g]
    | none => [])
  | none => []

/-- What an operation looks at. -/
def LK (ops : List Oper) (n : Nat) (o : Oper) : List Nat := (tmpsOf o.op ++ gsOf ops o).flatMap (gch ops n)

def GdS (ops : List Oper) (sl : List V) : Prop := ∀ t g w v, sl.getD t .any = .gd g w v → ∃ o, o ∈ ops ∧ o.dst = some t ∧ g ∈ gsOf ops o

theorem gch_self (ops : List Oper) (n t : Nat) : t ∈ gch ops n t := by cases n <;> simp [gch]

theorem gch_next {ops : List Oper} {o : Oper} {t g : Nat} (ho : o ∈ ops) (hd : o.dst = some t) (hg : g ∈ gsOf ops o) (n : Nat) : ∀ x, x ∈ gch ops n g → x ∈ gch ops (n + 1) t := by
  intro x hx
  simp only [gch, List.mem_cons, List.mem_flatMap]
  refine .inr ⟨o, ho, ?_⟩
  rw [if_pos hd]
  cases hgd : o.guard with
  | none => simp [gsOf, hgd] at hg
  | some jw =>
    obtain ⟨j, w⟩ := jw
    cases hgs : gslot ops j with
    | none => simp [gsOf, hgd, hgs] at hg
    | some g' =>
      simp only [gsOf, hgd, hgs, List.mem_singleton] at hg
      subst hg
      simp only [hgs]
      exact hx

theorem gch_mono {ops : List Oper} : ∀ (n t x : Nat), x ∈ gch ops n t → x ∈ gch ops (n + 1) t
  | 0, t, x, h => by simp only [gch, List.mem_singleton] at h; subst h; exact gch_self _ _ _
  | n + 1, t, x, h => by
    rw [gch] at h ⊢
    simp only [List.mem_cons, List.mem_flatMap] at h ⊢
    rcases h with h | ⟨o, ho, h⟩
    · exact .inl h
    · refine .inr ⟨o, ho, ?_⟩
      split at h
      · next hd =>
        rw [if_pos hd]
        cases hgd : o.guard with
        | none => simp [hgd] at h
        | some jw =>
          obtain ⟨j, w⟩ := jw
          cases hgs : gslot ops j with
          | none => simp [hgd, hgs] at h
          | some g =>
            simp only [hgd, hgs] at h ⊢
            exact gch_mono n g x h
      · simp at h

theorem gch_step {ops : List Oper} : ∀ (n t x : Nat) (o : Oper) (g : Nat), x ∈ gch ops n t → o ∈ ops → o.dst = some x → g ∈ gsOf ops o → g ∈ gch ops (n + 1) t
  | 0, t, x, o, g, h, ho, hd, hg => by
    simp only [gch, List.mem_singleton] at h
    subst h
    exact gch_next ho hd hg 0 g (gch_self _ _ _)
  | n + 1, t, x, o, g, h, ho, hd, hg => by
    have h0 := h
    rw [gch] at h
    simp only [List.mem_cons, List.mem_flatMap] at h
    rcases h with rfl | ⟨o', ho', h⟩
    · exact gch_next ho hd hg _ g (gch_self _ _ _)
    · rw [gch]
      simp only [List.mem_cons, List.mem_flatMap]
      refine .inr ⟨o', ho', ?_⟩
      split at h
      · next hd' =>
        rw [if_pos hd']
        cases hgd : o'.guard with
        | none => simp [hgd] at h
        | some jw =>
          obtain ⟨j, w⟩ := jw
          cases hgs : gslot ops j with
          | none => simp [hgd, hgs] at h
          | some g' =>
            simp only [hgd, hgs] at h ⊢
            exact gch_step n g' x o g h ho hd hg
      · simp at h

/-- Two states of the slots are alike where an operation looks. -/
def Alike (ops : List Oper) (o : Oper) (sl1 sl2 : List V) : Prop := ∀ t, t ∈ LK ops 8 o → sl1.getD t .any = sl2.getD t .any

theorem conds_congr {ops : List Oper} {sl1 sl2 : List V} (hs : GdS ops sl1) : ∀ (n g : Nat) (w : Bool), (∀ t, t ∈ gch ops n g → sl1.getD t .any = sl2.getD t .any) → conds sl1 n g w = conds sl2 n g w
  | 0, _, _, _ => rfl
  | n + 1, g, w, h => by
    have h0 := h g (gch_self _ _ _)
    simp only [conds]
    rw [← h0]
    split
    · rfl
    · rfl
    · next g' w' b e =>
      obtain ⟨o, ho, hd, hg⟩ := hs g g' w' _ e
      rw [conds_congr hs n g' w' fun t ht => h t (gch_next ho hd hg n t ht)]
    · next g' w' b e =>
      obtain ⟨o, ho, hd, hg⟩ := hs g g' w' _ e
      rw [conds_congr hs n g' w' fun t ht => h t (gch_next ho hd hg n t ht)]
    · rfl

theorem mem_LK {ops : List Oper} {o : Oper} {t : Nat} (h : t ∈ tmpsOf o.op ++ gsOf ops o) (n : Nat) : ∀ x, x ∈ gch ops n t → x ∈ LK ops n o := fun x hx => List.mem_flatMap.2 ⟨t, h, hx⟩

section
variable {P : Program} {C : Caller} {Γ : Ctx} {G : List Nat} {ops : List Oper}

theorem aval_congr {st : List Ob} {fs : Facts} {ρ1 ρ2 : Facts → Operand → V} {o : Op} (h : ∀ gs x, x ∈ o.operands.toList → ρ1 gs x = ρ2 gs x) : aval P st fs ρ1 o = aval P st fs ρ2 o := by
  have hmap : ∀ (l : List Operand), (∀ x, x ∈ l → x ∈ o.operands.toList) → l.map (ρ1 fs) = l.map (ρ2 fs) := fun l hl => List.map_congr_left fun x hx => h fs x (hl x hx)
  cases o with
  | pick c a b =>
    cases c <;> first | rfl | skip
    next s => simp only [aval]; rw [h fs (.tmp s) (by simp [Op.operands]), h ((s, true) :: fs) a (by simp [Op.operands]), h ((s, false) :: fs) b (by simp [Op.operands])]
  | makeFunc f a b => simp only [aval]; rw [hmap a.toList (by simp [Op.operands]; intro x hx; exact .inl hx), hmap b.toList (by simp [Op.operands]; intro x hx; exact .inr hx)]
  | build t parts =>
    simp only [aval]
    have : (parts.toList.map fun p => (p.1, ρ1 fs p.2)) = parts.toList.map fun p => (p.1, ρ2 fs p.2) := List.map_congr_left fun p hp => by
      rw [h fs p.2 (by simp only [Op.operands]; exact List.mem_map.2 ⟨p, hp, rfl⟩)]
    rw [this]
  | slice t x lo hi mx =>
    cases mx <;> first | rfl | skip
    simp only [aval]
    have h1 : lo.map (ρ1 fs) = lo.map (ρ2 fs) := by cases lo with
      | none => rfl
      | some v => simp only [Option.map_some]; rw [h fs v (by simp [Op.operands])]
    have h2 : hi.map (ρ1 fs) = hi.map (ρ2 fs) := by cases hi with
      | none => rfl
      | some v => simp only [Option.map_some]; rw [h fs v (by simp [Op.operands])]
    rw [h1, h2, h fs x (by simp [Op.operands])]
  | call cl =>
    obtain ⟨callee, args, ts⟩ := cl
    cases callee <;> first | rfl | skip
    simp only [aval]
    rw [hmap args.toList (by simp [Op.operands, Call.operands])]
  | move x | assign x | load t x | nilCheck x | unOp _ _ x | convert _ _ x | fieldAddr _ x _ | field _ x _ | extract x _ => simp only [aval]; rw [h fs x (by simp [Op.operands])]
  | binOp _ _ x y _ | indexAddr _ x y | index _ x y => simp only [aval]; rw [h fs x (by simp [Op.operands]), h fs y (by simp [Op.operands])]
  | _ => rfl

theorem aeff_congr {C : Caller} {st : List Ob} {fs : Facts} {ρ1 ρ2 : Facts → Operand → V} {o : Op} (h : ∀ gs x, x ∈ o.operands.toList → ρ1 gs x = ρ2 gs x) (k : V → List Ob → Prop) : aeff P C st fs ρ1 o k = aeff P C st fs ρ2 o k := by
  have hmap : ∀ (l : List Operand), (∀ x, x ∈ l → x ∈ o.operands.toList) → l.map (ρ1 fs) = l.map (ρ2 fs) := fun l hl => List.map_congr_left fun x hx => h fs x (hl x hx)
  cases o with
  | pick c a b =>
    cases c <;> first | rfl | skip
    next s => simp only [aeff]; rw [h fs (.tmp s) (by simp [Op.operands]), h ((s, true) :: fs) a (by simp [Op.operands]), h ((s, false) :: fs) b (by simp [Op.operands])]
  | buildSlice t n parts =>
    simp only [aeff]
    have : (parts.toList.map fun p => (p.1, ρ1 fs p.2)) = parts.toList.map fun p => (p.1, ρ2 fs p.2) := List.map_congr_left fun p hp => by
      rw [h fs p.2 (by simp only [Op.operands]; exact List.mem_map.2 ⟨p, hp, rfl⟩)]
    rw [this]
  | call cl =>
    obtain ⟨callee, args, ts⟩ := cl
    cases callee with
    | builtin b =>
      cases b <;> first | rfl | skip
      rotate_left
      · simp only [aeff]
        cases ha : args.toList with
        | nil => rfl
        | cons x r =>
          cases r with
          | nil =>
            have hx : x ∈ args.toList := by rw [ha]; simp
            have e := h fs x (by simpa [Op.operands, Call.operands] using hx)
            cases ts.toList with
            | nil => rfl
            | cons t q =>
              cases q with
              | nil => simp only; rw [e]
              | cons t' q' => rfl
          | cons y r' => rfl
      simp only [aeff]
      cases ha : args.toList with
      | nil => rfl
      | cons x r =>
        cases r with
        | nil => rfl
        | cons y r' =>
          cases r' with
          | nil =>
            have hx : x ∈ args.toList := by rw [ha]; simp
            have hy : y ∈ args.toList := by rw [ha]; simp
            simp only
            rw [h fs x (by simpa [Op.operands, Call.operands] using hx), h fs y (by simpa [Op.operands, Call.operands] using hy)]
          | cons z r'' => rfl
    | value f =>
      simp only [aeff]
      rw [hmap args.toList (by simp [Op.operands, Call.operands]; intro x hx; exact .inr hx), h fs f (by simp [Op.operands, Call.operands])]
    | _ => rfl
  | alloc t => rfl
  | box t x => simp only [aeff]; rw [h fs x (by simp [Op.operands])]
  | makeSlice _ x y | store _ x y => simp only [aeff]; rw [h fs x (by simp [Op.operands]), h fs y (by simp [Op.operands])]
  | _ => rfl

theorem aop_congr {C : Caller} {st : List Ob} {fs : Facts} {ρ1 ρ2 : Facts → Operand → V} {o : Op} (h : ∀ gs x, x ∈ o.operands.toList → ρ1 gs x = ρ2 gs x) (k : V → List Ob → Prop) : aop P C st fs ρ1 o k = aop P C st fs ρ2 o k := by
  unfold aop
  rw [aval_congr h, aeff_congr h]

theorem rdv_congr {o : Oper} {sl1 sl2 : List V} (h : Alike ops o sl1 sl2) (gs : Facts) (x : Operand) (hx : x ∈ o.op.operands.toList) : rdv sl1 gs x = rdv sl2 gs x := by
  cases x with
  | tmp t =>
    have ht : t ∈ tmpsOf o.op := List.mem_filterMap.2 ⟨.tmp t, hx, rfl⟩
    have := h t (mem_LK (List.mem_append_left _ ht) 8 t (gch_self _ _ _))
    simp only [rdv]
    rw [this]
  | _ => rfl

theorem R_congr {C : Caller} {o : Oper} {sl1 sl2 : List V} {st : List Ob} (h : Alike ops o sl1 sl2) (hs : GdS ops sl1) (kk : V → List Ob → Prop) : R P C G ops o sl1 st kk = R P C G ops o sl2 st kk := by
  have hr := rdv_congr h
  unfold R
  cases hg : o.guard with
  | none => exact aop_congr hr _
  | some jw =>
    obtain ⟨j, w⟩ := jw
    simp only
    cases hgs : gslot ops j with
    | none => rfl
    | some g =>
      have hgm : g ∈ tmpsOf o.op ++ gsOf ops o := List.mem_append_right _ (by simp [gsOf, hg, hgs])
      have hc := conds_congr hs 8 g w fun t ht => h t (mem_LK hgm 8 t ht)
      simp only
      rw [hc]
      cases conds sl2 8 g w with
      | none => rfl
      | some fb =>
        obtain ⟨fs, bs⟩ := fb
        simp only
        rw [aval_congr hr, aop_congr hr]

def okv (ops : List Oper) (o : Oper) (v : V) : Prop := ∀ g w x, v = .gd g w x → g ∈ gsOf ops o

theorem R_okv {o : Oper} {sl : List V} {st : List Ob} {kk : V → List Ob → Prop} (h : R P (Cx P C Γ) G ops o sl st kk) : R P (Cx P C Γ) G ops o sl st fun v st' => okv ops o v ∧ kk v st' := by
  have hn : ∀ v : V, okv ops o (nogd v) := fun v g w x e => absurd e nogd_ne
  cases hg : o.guard with
  | none => simp only [R, hg] at *; exact aop_mono (fun v st' h => ⟨hn v, h⟩) h
  | some jw =>
    obtain ⟨j, w⟩ := jw
    cases hgs : gslot ops j with
    | none => simp [R, hg, hgs] at h
    | some g =>
      have hgd : ∀ x, okv ops o (.gd g w x) := fun x g' w' x' e => by cases e; simp [gsOf, hg, hgs]
      cases hc : conds sl 8 g w with
      | none => simp [R, hg, hgs, hc] at h
      | some fb =>
        obtain ⟨fs, bs⟩ := fb
        by_cases hG : G.contains g = true
        · have alt : (bif okAll bs then aop P (Cx P C Γ) st fs (rdv sl) o.op (fun v st' => kk (nogd v) st') else kk (.x undef) st) →
              (bif okAll bs then aop P (Cx P C Γ) st fs (rdv sl) o.op (fun v st' => okv ops o (nogd v) ∧ kk (nogd v) st') else okv ops o (.x undef) ∧ kk (.x undef) st) := by
            cases okAll bs with
            | true => intro h; simp only [cond_true] at h ⊢; exact aop_mono (fun v st' h => ⟨hn v, h⟩) h
            | false =>
              intro h
              refine ⟨?_, h⟩
              intro g' w' x e
              cases e
          cases hd : o.dst with
          | none =>
            cases hv : aval P st fs (rdv sl) o.op with
            | none => simp only [R, hg, hgs, hc, hG, if_true, hd, hv] at *; exact alt h
            | some pv => simp only [R, hg, hgs, hc, hG, if_true, hd, hv] at *; exact alt h
          | some d =>
            cases hv : aval P st fs (rdv sl) o.op with
            | none => simp only [R, hg, hgs, hc, hG, if_true, hd, hv] at *; exact alt h
            | some pv =>
              obtain ⟨p, v⟩ := pv
              by_cases hdg : d = g
              · simp [R, hg, hgs, hc, hG, hd, hv, hdg] at h
              · simp only [R, hg, hgs, hc, hG, if_true, hd, hv, if_neg hdg] at *
                cases p with
                | none => exact ⟨hgd _, h⟩
                | some p => exact ⟨h.1, hgd _, h.2⟩
        · simp only [R, hg, hgs, hc, if_neg hG] at h

theorem aop_still {st : List Ob} {fs : Facts} {sl : List V} {o : Op} (hk : stillK P Γ o = true) {k : V → List Ob → Prop} (h : aop P (Cx P C Γ) st fs (rdv sl) o k) : aop P (Cx P C Γ) st fs (rdv sl) o fun v st' => st' = st ∧ k v st' := by
  by_cases hd : detK o = true
  · obtain ⟨p, v, hpv⟩ := aop_det (P := P) (C := C) (Γ := Γ) (st := st) (fs := fs) (ρ := rdv sl) hd
    exact (hpv _).2 ⟨((hpv _).1 h).1, rfl, ((hpv _).1 h).2⟩
  · simp only [stillK, Bool.or_eq_true] at hk
    rcases hk with hk | hk
    · exact absurd hk hd
    · cases o with
      | call cl =>
        obtain ⟨callee, args, ts⟩ := cl
        cases callee with
        | value f =>
          cases f with
          | func f =>
            simp only at hk
            simp only [aop, aval, aeff, rdv] at h ⊢
            split at h
            · next hc => simp only [hc, if_true]; exact Cx_still hk h
            · exact h.elim
          | _ => simp at hk
        | _ => simp at hk
      | _ => simp at hk

theorem R_still {o : Oper} (hk : stillK P Γ o.op = true) {sl : List V} {st : List Ob} {kk : V → List Ob → Prop} (h : R P (Cx P C Γ) G ops o sl st kk) : R P (Cx P C Γ) G ops o sl st fun v st' => st' = st ∧ kk v st' := by
  cases hg : o.guard with
  | none => simp only [R, hg] at *; exact aop_still hk h
  | some jw =>
    obtain ⟨j, w⟩ := jw
    cases hgs : gslot ops j with
    | none => simp [R, hg, hgs] at h
    | some g =>
      cases hc : conds sl 8 g w with
      | none => simp [R, hg, hgs, hc] at h
      | some fb =>
        obtain ⟨fs, bs⟩ := fb
        by_cases hG : G.contains g = true
        · have alt : (bif okAll bs then aop P (Cx P C Γ) st fs (rdv sl) o.op (fun v st' => kk (nogd v) st') else kk (.x undef) st) →
              (bif okAll bs then aop P (Cx P C Γ) st fs (rdv sl) o.op (fun v st' => st' = st ∧ kk (nogd v) st') else st = st ∧ kk (.x undef) st) := by
            cases okAll bs with
            | true => exact aop_still hk
            | false => exact fun h => ⟨rfl, h⟩
          cases hd : o.dst with
          | none =>
            cases hv : aval P st fs (rdv sl) o.op with
            | none => simp only [R, hg, hgs, hc, hG, if_true, hd, hv] at *; exact alt h
            | some pv => simp only [R, hg, hgs, hc, hG, if_true, hd, hv] at *; exact alt h
          | some d =>
            cases hv : aval P st fs (rdv sl) o.op with
            | none => simp only [R, hg, hgs, hc, hG, if_true, hd, hv] at *; exact alt h
            | some pv =>
              obtain ⟨p, v⟩ := pv
              by_cases hdg : d = g
              · simp [R, hg, hgs, hc, hG, hd, hv, hdg] at h
              · simp only [R, hg, hgs, hc, hG, if_true, hd, hv, if_neg hdg] at *
                cases p with
                | none => exact ⟨trivial, h⟩
                | some p => exact ⟨h.1, trivial, h.2⟩
        · simp only [R, hg, hgs, hc, if_neg hG] at h

theorem aval_pure {st st2 : List Ob} {fs : Facts} {ρ : Facts → Operand → V} {o : Op} (hk : pureK o = true) : aval P st fs ρ o = aval P st2 fs ρ o := by
  cases o <;> first | (simp [pureK] at hk; done) | rfl | skip
  · next c a b => cases c <;> first | (simp [pureK] at hk; done) | rfl
  · next x t lo hi mx => cases mx <;> first | (simp [pureK] at hk; done) | rfl

theorem aop_pure {C : Caller} {st st2 : List Ob} {fs : Facts} {ρ : Facts → Operand → V} {o : Op} (hk : pureK o = true) (k : V → List Ob → Prop) : aop P C st2 fs ρ o k ↔ aop P C st fs ρ o fun v _ => k v st2 := by
  unfold aop
  rw [aval_pure (st := st2) (st2 := st) hk]
  cases aval P st fs ρ o with
  | some pv => exact Iff.rfl
  | none =>
    cases o <;> first | (simp [pureK] at hk; done) | exact Iff.rfl | skip
    · next c a b => cases c <;> first | (simp [pureK] at hk; done) | exact Iff.rfl

theorem R_pure {C : Caller} {o : Oper} (hk : pureK o.op = true) (sl : List V) (st st2 : List Ob) (kk : V → List Ob → Prop) : R P C G ops o sl st2 kk ↔ R P C G ops o sl st fun v _ => kk v st2 := by
  unfold R
  cases hg : o.guard with
  | none => exact aop_pure hk _
  | some jw =>
    obtain ⟨j, w⟩ := jw
    simp only
    cases hgs : gslot ops j with
    | none => exact Iff.rfl
    | some g =>
      simp only
      cases hc : conds sl 8 g w with
      | none => exact Iff.rfl
      | some fb =>
        obtain ⟨fs, bs⟩ := fb
        simp only
        rw [aval_pure (st := st2) (st2 := st) hk]
        split
        · split
          · exact Iff.rfl
          · cases okAll bs with
            | true => exact aop_pure hk _
            | false => exact Iff.rfl
        · exact Iff.rfl

theorem putS_get (d : Option Nat) (v : V) (sl : List V) (t : Nat) : (putS G d v sl).getD t .any = if d = some t ∧ t < sl.length then v else (match d with | some d => if G.contains d = true then ungd d (sl.getD t .any) else sl.getD t .any | none => sl.getD t .any) := by
  cases d with
  | none => simp [putS]
  | some d =>
    simp only [putS]
    split
    · next hG =>
      rw [getD_set, getD_map_ungd]
      by_cases h : d = t
      · subst h; simp
      · have : ¬ (some d = some t ∧ t < sl.length) := fun e => h (by cases e.1; rfl)
        rw [if_neg this, if_neg (fun e => h e.1)]
    · rw [getD_set]
      by_cases h : d = t
      · subst h; simp
      · have : ¬ (some d = some t ∧ t < sl.length) := fun e => h (by cases e.1; rfl)
        rw [if_neg this, if_neg (fun e => h e.1)]

theorem putS_len (d : Option Nat) (v : V) (sl : List V) : (putS G d v sl).length = sl.length := by
  cases d with
  | none => rfl
  | some d => simp only [putS]; split <;> simp

theorem list_ext {a b : List V} (hl : a.length = b.length) (h : ∀ t, a.getD t .any = b.getD t .any) : a = b := by
  apply List.ext_getElem hl
  intro i h1 h2
  have := h i
  simpa [List.getD, List.getElem?_eq_getElem h1, List.getElem?_eq_getElem h2] using this

/-- Writes outside of what the other looks at. -/
structure Apart (ops : List Oper) (o1 o2 : Oper) : Prop where
  h1 : ∀ d, o1.dst = some d → d ∉ LK ops 9 o2
  h2 : ∀ d, o2.dst = some d → d ∉ LK ops 9 o1
  h3 : ∀ d, o1.dst = some d → o2.dst ≠ some d

theorem LK_mono {o : Oper} {t : Nat} (h : t ∈ LK ops 8 o) : t ∈ LK ops 9 o := by
  obtain ⟨x, hx, ht⟩ := List.mem_flatMap.1 h
  exact List.mem_flatMap.2 ⟨x, hx, gch_mono 8 x t ht⟩

theorem LK_step {o o' : Oper} {t g : Nat} (h : t ∈ LK ops 8 o) (ho : o' ∈ ops) (hd : o'.dst = some t) (hg : g ∈ gsOf ops o') : g ∈ LK ops 9 o := by
  obtain ⟨x, hx, ht⟩ := List.mem_flatMap.1 h
  exact List.mem_flatMap.2 ⟨x, hx, gch_step 8 x t o' g ht ho hd hg⟩

theorem gs_LK {o : Oper} {g : Nat} (h : g ∈ gsOf ops o) : g ∈ LK ops 9 o := List.mem_flatMap.2 ⟨g, List.mem_append_right _ h, gch_self _ _ _⟩

theorem alike_put {o1 o2 : Oper} (ha : Apart ops o1 o2) {sl : List V} (hs : GdS ops sl) (v : V) : Alike ops o2 (putS G o1.dst v sl) sl := by
  intro t ht
  rw [putS_get]
  cases hd : o1.dst with
  | none => simp
  | some d =>
    have hne : d ≠ t := fun e => ha.h1 d hd (e ▸ LK_mono ht)
    have : ¬ (some d = some t ∧ t < sl.length) := fun e => hne (by cases e.1; rfl)
    rw [if_neg this]
    simp only
    split
    · cases hst : sl.getD t .any with
      | gd g w x =>
        obtain ⟨o', ho, hd', hg⟩ := hs t g w x hst
        have hg9 := LK_step ht ho hd' hg
        have : g ≠ d := fun e => ha.h1 d hd (e ▸ hg9)
        simp only [ungd, if_neg this]
      | _ => rfl
    · rfl

theorem gds_put {o : Oper} (ho : o ∈ ops) {sl : List V} (hs : GdS ops sl) {v : V} (hv : okv ops o v) : GdS ops (putS G o.dst v sl) := by
  intro t g w x e
  rw [putS_get] at e
  split at e
  · next h => exact ⟨o, ho, h.1, hv g w x e⟩
  · split at e
    · split at e
      · cases hst : sl.getD t .any with
        | gd g' w' x' =>
          rw [hst] at e
          simp only [ungd] at e
          split at e
          · cases e
          · cases e; exact hs t g w x hst
        | _ => rw [hst] at e; simp [ungd] at e
      · exact hs t g w x e
    · exact hs t g w x e

theorem ungd_ungd (d d' : Nat) (v : V) : ungd d (ungd d' v) = ungd d' (ungd d v) := by
  cases v with
  | gd g w x =>
    have e : ∀ (a : Nat), ungd a (.gd g w x) = if g = a then .any else .gd g w x := fun _ => rfl
    have e0 : ∀ (a : Nat), ungd a .any = .any := fun _ => rfl
    rw [e, e]
    by_cases h : g = d <;> by_cases h' : g = d'
    · rw [if_pos h, if_pos h', e0, e0]
    · rw [if_pos h, if_neg h', e0, e, if_pos h]
    · rw [if_neg h, if_pos h', e0, e, if_pos h']
    · rw [if_neg h, if_neg h', e, e, if_neg h, if_neg h']
  | _ => rfl

theorem ungd_ok {o : Oper} {v : V} (hv : okv ops o v) {d : Nat} (hd : d ∉ LK ops 9 o) : ungd d v = v := by
  cases v with
  | gd g w x =>
    have := gs_LK (hv g w x rfl)
    have hne : g ≠ d := fun e => hd (e ▸ this)
    simp only [ungd, if_neg hne]
  | _ => rfl

theorem put_comm {o1 o2 : Oper} (ha : Apart ops o1 o2) {v1 v2 : V} (h1 : okv ops o1 v1) (h2 : okv ops o2 v2) (sl : List V) : putS G o2.dst v2 (putS G o1.dst v1 sl) = putS G o1.dst v1 (putS G o2.dst v2 sl) := by
  refine list_ext (by simp [putS_len]) fun t => ?_
  rw [putS_get, putS_get, putS_get, putS_get]
  simp only [putS_len]
  cases hd1 : o1.dst with
  | none => simp
  | some d1 =>
    cases hd2 : o2.dst with
    | none => simp
    | some d2 =>
      have hne : d1 ≠ d2 := fun e => ha.h3 d1 hd1 (by rw [hd2, e])
      have e1 := ungd_ok h1 (ha.h2 d2 hd2)
      have e2 := ungd_ok h2 (ha.h1 d1 hd1)
      by_cases ht1 : some d1 = some t ∧ t < sl.length
      · have hn2 : ¬ (some d2 = some t ∧ t < sl.length) := fun e => hne (by have := ht1.1; have := e.1; simp_all)
        simp only [if_pos ht1, if_neg hn2, e1]
        split <;> rfl
      · by_cases ht2 : some d2 = some t ∧ t < sl.length
        · simp only [if_pos ht2, if_neg ht1, e2]
          split <;> rfl
        · simp only [if_neg ht1, if_neg ht2]
          split <;> split <;> first | rfl | exact ungd_ungd _ _ _

end

end Eng
end Go.Proofs.YtkpplfghhciacaaDoor

/-
  Regions whose order is open: any order that the edges allow comes to what the text's order comes to. Conditions: none.
-/
import Derived.Test.YtjlejiefkmimiaaEngQ
namespace Go.Proofs.Ytjlejiefkmimiaa
namespace Eng
open Go.RowKit

/-- The operation h, earlier in the text, may run behind i. -/
def kindOk (P : Program) (Γ : Ctx) (h i : Op) : Bool := (detK h && stillK P Γ i) || (stillK P Γ h && detK i) || pureK h || pureK i

structure PairOk (P : Program) (Γ : Ctx) (ops : List Oper) (h i : Oper) : Prop where
  apart : Apart ops h i
  kind : kindOk P Γ h.op i.op = true

section
variable {P : Program} {C : Caller} {Γ : Ctx} {G : List Nat} {ops : List Oper}

/-- What an operation of its own value owes. -/
def Owes (P : Program) (C : Caller) (Γ : Ctx) (G : List Nat) (ops : List Oper) (i : Oper) (sl : List V) (st : List Ob) : Prop := R P (Cx P C Γ) G ops i sl st fun _ _ => True

theorem R_owes {i : Oper} {sl : List V} {st : List Ob} {kk : V → List Ob → Prop} (h : R P (Cx P C Γ) G ops i sl st kk) : Owes P C Γ G ops i sl st := R_mono (fun _ _ _ => trivial) h

/-- An operation of its own value, as a value. -/
theorem det_val {i : Oper} {sl : List V} {st : List Ob} (hi : detK i.op = true) (ho : Owes P C Γ G ops i sl st) : ∃ v, okv ops i v ∧ ∀ kk, R P (Cx P C Γ) G ops i sl st kk ↔ kk v st := by
  obtain ⟨p, v, hv⟩ := R_det (P := P) (Γ := Γ) (G := G) (ops := ops) hi sl st
  have hp : p := ((hv _).1 ho).1
  refine ⟨v, ((hv _).1 (R_okv ho)).2.1, fun kk => ?_⟩
  rw [hv]
  exact ⟨fun h => h.2, fun h => ⟨hp, h⟩⟩

theorem swap {h i : Oper} (hm : h ∈ ops) (hp : PairOk P Γ ops h i) {rest : List Oper} {sl : List V} {st : List Ob} {K : St} (hs : GdS ops sl)
    (ho : detK i.op = true → Owes P C Γ G ops i sl st) (hx : aops P (Cx P C Γ) G ops (h :: i :: rest) sl st K) : aops P (Cx P C Γ) G ops (i :: h :: rest) sl st K := by
  rw [aops_cons] at *
  have ha := hp.apart
  have hai : Apart ops i h := ⟨ha.h2, ha.h1, fun d e1 e2 => ha.h3 d e2 e1⟩
  -- i behind h looks at what it looks at
  have ci : ∀ v, okv ops h v → ∀ st1 kk, R P (Cx P C Γ) G ops i (putS G h.dst v sl) st1 kk = R P (Cx P C Γ) G ops i sl st1 kk := fun v hv st1 kk => R_congr (alike_put ha hs v) (gds_put hm hs hv) kk
  by_cases hhd : detK h.op = true ∧ (stillK P Γ i.op = true ∨ pureK h.op = true)
  · obtain ⟨hd, hsi⟩ := hhd
    obtain ⟨vh, hvh, hval⟩ := det_val (i := h) hd (R_owes hx)
    have h1 := (hval _).1 hx
    rw [aops_cons, ci vh hvh] at h1
    -- now i, then h
    have h2 : R P (Cx P C Γ) G ops i sl st fun vi st2 => okv ops i vi ∧ (pureK h.op = true ∨ st2 = st) ∧ aops P (Cx P C Γ) G ops rest (putS G i.dst vi (putS G h.dst vh sl)) st2 K := by
      have h3 := R_okv h1
      rcases hsi with hst | hpu
      · exact R_mono (fun v st' g => ⟨g.2.1, .inr g.1, g.2.2⟩) (R_still hst h3)
      · exact R_mono (fun v st' g => ⟨g.1, .inl hpu, g.2⟩) h3
    refine R_mono (fun vi st2 g => ?_) h2
    obtain ⟨hvi, hst, g⟩ := g
    rw [aops_cons]
    have ch : R P (Cx P C Γ) G ops h sl st2 (fun v st' => aops P (Cx P C Γ) G ops rest (putS G h.dst v (putS G i.dst vi sl)) st' K) = R P (Cx P C Γ) G ops h (putS G i.dst vi sl) st2 (fun v st' => aops P (Cx P C Γ) G ops rest (putS G h.dst v (putS G i.dst vi sl)) st' K) :=
      R_congr (fun t ht => (alike_put hai hs vi t ht).symm) hs _
    rw [← ch]
    have hb : R P (Cx P C Γ) G ops h sl st fun vh' _ => aops P (Cx P C Γ) G ops rest (putS G h.dst vh' (putS G i.dst vi sl)) st2 K := by
      rw [hval]
      rw [← put_comm ha hvh hvi sl]
      exact g
    rcases hst with hpu | rfl
    · exact (R_pure hpu sl st st2 _).2 hb
    · rw [hval] at hb ⊢
      exact hb
  · have hki : detK i.op = true ∧ (stillK P Γ h.op = true ∨ pureK i.op = true) := by
      have hk := hp.kind
      have pd : ∀ o, pureK o = true → detK o = true := fun o ho => by simp [detK, ho]
      have ds : ∀ o, detK o = true → stillK P Γ o = true := fun o ho => by simp [stillK, ho]
      simp only [kindOk, Bool.or_eq_true, Bool.and_eq_true] at hk
      rcases hk with ((⟨a, b⟩ | ⟨a, b⟩) | a) | a
      · exact absurd ⟨a, .inl b⟩ hhd
      · exact ⟨b, .inl a⟩
      · exact absurd ⟨pd _ a, .inr a⟩ hhd
      · exact ⟨pd _ a, .inr a⟩
    obtain ⟨hdi, hsh⟩ := hki
    obtain ⟨vi, hvi, hval⟩ := det_val (i := i) hdi (ho hdi)
    rw [hval, aops_cons]
    have h1 : R P (Cx P C Γ) G ops h sl st fun vh st1 => okv ops h vh ∧ (pureK i.op = true ∨ st1 = st) ∧ aops P (Cx P C Γ) G ops (i :: rest) (putS G h.dst vh sl) st1 K := by
      have h3 := R_okv hx
      rcases hsh with hst | hpu
      · exact R_mono (fun v st' g => ⟨g.2.1, .inr g.1, g.2.2⟩) (R_still hst h3)
      · exact R_mono (fun v st' g => ⟨g.1, .inl hpu, g.2⟩) h3
    have h2 : R P (Cx P C Γ) G ops h sl st fun vh st1 => aops P (Cx P C Γ) G ops rest (putS G h.dst vh (putS G i.dst vi sl)) st1 K := by
      refine R_mono (fun vh st1 g => ?_) h1
      obtain ⟨hvh, hst, g⟩ := g
      rw [aops_cons, ci vh hvh] at g
      rw [← put_comm ha hvh hvi sl]
      rcases hst with hpu | rfl
      · exact (hval _).1 ((R_pure hpu sl st st1 _).1 g)
      · exact (hval _).1 g
    rw [← R_congr (P := P) (G := G) (C := Cx P C Γ) (st := st) (fun t ht => (alike_put hai hs vi t ht).symm) hs]
    exact h2

/-- i, moved ahead of what stands before it. -/
theorem front {i : Oper} (him : i ∈ ops) : ∀ (l1 : List Oper) (l2 : List Oper) (sl : List V) (st : List Ob) (K : St), (∀ h, h ∈ l1 → h ∈ ops ∧ PairOk P Γ ops h i) → GdS ops sl →
    (detK i.op = true → Owes P C Γ G ops i sl st) → aops P (Cx P C Γ) G ops (l1 ++ i :: l2) sl st K → aops P (Cx P C Γ) G ops (i :: (l1 ++ l2)) sl st K
  | [], l2, sl, st, K, _, _, _, h => h
  | h :: l1, l2, sl, st, K, hl, hs, ho, hx => by
    obtain ⟨hm, hp⟩ := hl h (by simp)
    refine swap hm hp hs ho ?_
    rw [List.cons_append, aops_cons] at hx
    rw [aops_cons]
    have h1 := R_okv hx
    -- what i owes is the same behind h
    by_cases hdi : detK i.op = true
    · have h2 : R P (Cx P C Γ) G ops h sl st fun v st' => (okv ops h v ∧ aops P (Cx P C Γ) G ops (l1 ++ i :: l2) (putS G h.dst v sl) st' K) ∧ (st' = st ∨ pureK i.op = true) := by
        have hk := hp.kind
        simp only [kindOk, Bool.or_eq_true, Bool.and_eq_true] at hk
        have pd : ∀ o, pureK o = true → detK o = true := fun o ho => by simp [detK, ho]
        have ds : ∀ o, detK o = true → stillK P Γ o = true := fun o ho => by simp [stillK, ho]
        have : stillK P Γ h.op = true ∨ pureK i.op = true := by
          rcases hk with ((⟨a, b⟩ | ⟨a, b⟩) | a) | a
          · exact .inl (ds _ a)
          · exact .inl a
          · exact .inl (ds _ (pd _ a))
          · exact .inr a
        rcases this with hst | hpu
        · exact R_mono (fun v st' g => ⟨g.2, .inl g.1⟩) (R_still hst h1)
        · exact R_mono (fun v st' g => ⟨g, .inr hpu⟩) h1
      refine R_mono (fun v st' g => ?_) h2
      obtain ⟨⟨hv, g⟩, hst⟩ := g
      refine front him l1 l2 _ st' K (fun x hx => hl x (by simp [hx])) (gds_put hm hs hv) (fun _ => ?_) g
      unfold Owes
      rw [R_congr (alike_put hp.apart hs v) (gds_put hm hs hv)]
      rcases hst with rfl | hpu
      · exact ho hdi
      · exact (R_pure hpu sl st st' _).2 (ho hdi)
    · refine R_mono (fun v st' g => ?_) h1
      exact front him l1 l2 _ st' K (fun x hx => hl x (by simp [hx])) (gds_put hm hs g.1) (fun e => absurd e hdi) g.2

/-- What i owes is owed behind all that stands before it in the text, and so now. -/
theorem owes_behind {i : Oper} (hdi : detK i.op = true) : ∀ (l1 : List Oper) (l2 : List Oper) (sl : List V) (st : List Ob) (K : St), (∀ h, h ∈ l1 → h ∈ ops ∧ PairOk P Γ ops h i) → GdS ops sl →
    aops P (Cx P C Γ) G ops (l1 ++ i :: l2) sl st K → aops P (Cx P C Γ) G ops l1 sl st fun _ _ => Owes P C Γ G ops i sl st
  | [], l2, sl, st, K, _, _, h => by
    rw [List.nil_append, aops_cons] at h
    exact R_owes h
  | h :: l1, l2, sl, st, K, hl, hs, hx => by
    obtain ⟨hm, hp⟩ := hl h (by simp)
    rw [List.cons_append, aops_cons] at hx
    rw [aops_cons]
    have h1 := R_okv hx
    have hk := hp.kind
    simp only [kindOk, Bool.or_eq_true, Bool.and_eq_true] at hk
    have pd : ∀ o, pureK o = true → detK o = true := fun o ho => by simp [detK, ho]
    have ds : ∀ o, detK o = true → stillK P Γ o = true := fun o ho => by simp [stillK, ho]
    have hor : stillK P Γ h.op = true ∨ pureK i.op = true := by
      rcases hk with ((⟨a, b⟩ | ⟨a, b⟩) | a) | a
      · exact .inl (ds _ a)
      · exact .inl a
      · exact .inl (ds _ (pd _ a))
      · exact .inr a
    have h2 : R P (Cx P C Γ) G ops h sl st fun v st' => (okv ops h v ∧ aops P (Cx P C Γ) G ops (l1 ++ i :: l2) (putS G h.dst v sl) st' K) ∧ (st' = st ∨ pureK i.op = true) := by
      rcases hor with hst | hpu
      · exact R_mono (fun v st' g => ⟨g.2, .inl g.1⟩) (R_still hst h1)
      · exact R_mono (fun v st' g => ⟨g, .inr hpu⟩) h1
    refine R_mono (fun v st' g => ?_) h2
    obtain ⟨⟨hv, g⟩, hst⟩ := g
    have := owes_behind hdi l1 l2 _ st' K (fun x hx => hl x (by simp [hx])) (gds_put hm hs hv) g
    refine aops_mono l1 _ _ _ _ (fun _ _ ho => ?_) this
    unfold Owes at *
    rw [R_congr (alike_put hp.apart hs v) (gds_put hm hs hv)] at ho
    rcases hst with rfl | hpu
    · exact ho
    · exact (R_pure hpu sl st st' _).1 ho

end

end Eng
end Go.Proofs.Ytjlejiefkmimiaa

/-
  What a step keeps: how often a change occurs. Conditions: none.
-/
import Derived.Test.YtpfcgenmgddgpaaMqG
namespace Go.Proofs.Ytpfcgenmgddgpaa
open Eng
namespace Mq

def chg (es : List Ent) : List Int := es.map fun e => e.1
/-- How often a change occurs. -/
def cntS (s : St) (x : Int) : Nat := s.2.1.count x + s.2.2.count x + (chg s.1).count x
def tot (s : St) : Nat := s.2.1.length + s.2.2.length + s.1.length

theorem chg_disc (a : Nat) (es : List Ent) : chg (disc a es) = chg es := by
  apply List.ext_getElem?
  intro k
  simp only [chg, disc, List.getElem?_map, List.getElem?_mapIdx]
  cases es[k]? with
  | none => rfl
  | some e =>
    simp only [Option.map_some, Option.some.injEq]
    split <;> rfl

theorem chg_dea (c : Int) (es : List Ent) : chg (es.map (dea c)) = chg es := by
  simp only [chg, List.map_map]
  rfl

theorem chg_srt : ∀ (n : Nat) (es : List Ent) (a : List Int), chg (srt n es a) = chg es
  | 0, _, _ => rfl
  | _ + 1, [], _ => rfl
  | n + 1, e :: r, a => by
    have h := chg_srt n r (a ++ [e.1])
    simp only [srt, chg, List.map_cons] at h ⊢
    rw [h]
    cases (!e.2.2.1 && (!e.2.2.2.1 && !e.2.2.2.2.1)) <;> rfl

theorem stl_cnt (x : Int) : ∀ (n : Nat) (es : List Ent) (ld rj : List Int), cntS (stl n es ld rj) x = cntS (es, (ld, rj)) x
  | 0, es, ld, rj => rfl
  | n + 1, [], ld, rj => rfl
  | n + 1, e :: r, ld, rj => by
    simp only [stl]
    cases (e.2.2.2.1 || e.2.2.2.2.1) with
    | false => rfl
    | true =>
      simp only [cond_true]
      cases e.2.2.2.2.1 with
      | true =>
        have h := stl_cnt x n (disc 0 r) ld (rj ++ [e.1])
        simp only [cond_true, h]
        simp only [cntS, chg_disc, List.count_append, List.count_singleton]
        simp only [chg, List.map_cons, List.count_cons]
        omega
      | false =>
        have h := stl_cnt x n (r.map (dea e.1)) (ld ++ [e.1]) rj
        simp only [cond_false, h]
        simp only [cntS, chg_dea, List.count_append, List.count_singleton]
        simp only [chg, List.map_cons, List.count_cons]
        omega

theorem set2_cnt (x : Int) (w : Nat) (es : List Ent) (ld rj : List Int) : cntS (set2 w es ld rj) x = cntS (es, (ld, rj)) x := by
  have h := stl_cnt x es.length es ld rj
  simp only [cntS, set2, chg_srt] at h ⊢
  exact h

theorem set2_tot (w : Nat) (es : List Ent) (ld rj : List Int) : tot (set2 w es ld rj) = tot (es, (ld, rj)) := by
  have h := stl_tot es.length es ld rj
  simp only [tot, set2, srt_len] at h ⊢
  omega

theorem chg_get {es : List Ent} {k : Nat} {e : Ent} (h : es[k]? = some e) : chg es = chg (es.take k) ++ e.1 :: chg (es.drop (k + 1)) := by
  have hk := (List.getElem?_eq_some_iff.1 h).1
  have h2 : es[k] = e := (List.getElem?_eq_some_iff.1 h).2
  have h3 : es = es.take k ++ e :: es.drop (k + 1) := by
    rw [← h2, ← List.drop_eq_getElem_cons hk, List.take_append_drop]
  conv => lhs; rw [h3]
  simp [chg]

theorem chg_app (a b : List Ent) : chg (a ++ b) = chg a ++ chg b := by simp [chg]

theorem step_add (w : Nat) (s : St) (e : Ev) (h : e.1 = 1) : (∀ x, cntS (step w s e) x = cntS s x + if e.2.1 = x then 1 else 0) ∧ tot (step w s e) = tot s + 1 := by
  unfold step
  rw [if_pos h]
  refine ⟨fun x => ?_, ?_⟩
  · rw [set2_cnt]
    have h1 : (chg (addE e.2.1 e.2.2 s.1)).count x = (chg s.1).count x + if e.2.1 = x then 1 else 0 := by
      have h2 : chg s.1 = chg (s.1.take (plc e.2.2 s.1 0 0)) ++ chg (s.1.drop (plc e.2.2 s.1 0 0)) := by rw [← chg_app, List.take_append_drop]
      simp only [addE, chg_disc, chg_app, List.count_append]
      rw [h2]
      have h3 : chg [new e.2.1 e.2.2] = [e.2.1] := rfl
      rw [h3, List.count_singleton]
      simp only [beq_iff_eq, List.count_append]
      omega
    simp only [cntS, h1]
    omega
  · rw [set2_tot]
    simp only [tot, addE_len]
    omega

theorem step_rem (w : Nat) (s : St) (e : Ev) (h : e.1 = 2) (hp : 0 ≤ pos e.2.1 s.1) : (∀ x, cntS (step w s e) x + (if e.2.1 = x then 1 else 0) = cntS s x) ∧ tot (step w s e) + 1 = tot s := by
  obtain ⟨k, y, p1, p2, p3⟩ := pos_nat hp
  have hk := (List.getElem?_eq_some_iff.1 p2).1
  unfold step
  rw [if_neg (by omega), if_pos h, p1, Int.toNat_natCast]
  refine ⟨fun x => ?_, ?_⟩
  · rw [set2_cnt]
    simp only [cntS, chg_disc, chg_app, List.count_append]
    rw [chg_get p2, List.count_append, List.count_cons, p3]
    simp only [beq_iff_eq]
    omega
  · rw [set2_tot]
    simp only [tot, disc_len, List.length_append, List.length_take, List.length_drop]
    omega

theorem step_ver (w : Nat) (s : St) (e : Ev) (h : e.1 ≠ 1) (h2 : e.1 ≠ 2) (hp : 0 ≤ pos e.2.1 s.1) : (∀ x, cntS (step w s e) x = cntS s x) ∧ tot (step w s e) = tot s := by
  obtain ⟨k, y, p1, p2, p3⟩ := pos_nat hp
  unfold step
  rw [if_neg h, if_neg h2, p1, Int.toNat_natCast, getD_of _ p2]
  have hc : chg (s.1.set k (vrd e.1 y)) = chg s.1 := by
    apply List.ext_getElem?
    intro i
    have hk := (List.getElem?_eq_some_iff.1 p2).1
    simp only [chg, List.getElem?_map, List.getElem?_set]
    by_cases hi : k = i
    · subst hi
      rw [if_pos rfl, if_pos hk, p2]
      rfl
    · rw [if_neg hi]
  refine ⟨fun x => ?_, ?_⟩
  · rw [set2_cnt]
    simp only [cntS, hc]
  · rw [set2_tot]
    simp only [tot, List.length_set]

theorem cnt_no {c : Int} {s : St} (h1 : pos c s.1 < 0) (h2 : posI c s.2.1 0 < 0) (h3 : posI c s.2.2 0 < 0) : cntS s c = 0 := by
  have a1 : c ∉ s.2.1 := by
    rcases posI_or c s.2.1 0 with ⟨_, h⟩ | ⟨k, h, _⟩
    · exact h
    · omega
  have a2 : c ∉ s.2.2 := by
    rcases posI_or c s.2.2 0 with ⟨_, h⟩ | ⟨k, h, _⟩
    · exact h
    · omega
  have a3 : c ∉ chg s.1 := by
    rcases posA_or c s.1 0 with ⟨_, h⟩ | ⟨k, e, h, _⟩
    · intro hm
      obtain ⟨e, he, hc⟩ := List.mem_map.1 hm
      exact h e he hc
    · unfold pos at h1; omega
  simp only [cntS]
  rw [List.count_eq_zero.2 a1, List.count_eq_zero.2 a2, List.count_eq_zero.2 a3]

theorem chk_add {s : St} {e : Ev} (h : chkE s e = 0) (h1 : e.1 = 1) : cntS s e.2.1 = 0 := by
  have key : ¬ (e.1 = 1 ∧ (pos e.2.1 s.1 ≥ 0 ∨ posI e.2.1 s.2.1 0 ≥ 0 ∨ posI e.2.1 s.2.2 0 ≥ 0)) := fun g => by
    unfold chkE chk at h
    by_cases a : e.1 < 1 ∨ e.1 > 4
    · rw [if_pos a] at h; exact absurd h (by decide)
    rw [if_neg a] at h
    by_cases b : e.2.1 < 1 ∨ e.2.1 > 1000000000 ∨ e.2.2 < 0 ∨ e.2.2 > 3
    · rw [if_pos b] at h; exact absurd h (by decide)
    rw [if_neg b] at h
    by_cases d : e.1 ≠ 1 ∧ e.2.2 ≠ 0
    · rw [if_pos d] at h; exact absurd h (by decide)
    rw [if_neg d, if_pos g] at h
    exact absurd h (by decide)
  refine cnt_no (Int.not_le.1 fun g => key ⟨h1, .inl g⟩) (Int.not_le.1 fun g => key ⟨h1, .inr (.inl g)⟩) (Int.not_le.1 fun g => key ⟨h1, .inr (.inr g)⟩)

/-- How many events of a kind. -/
def evs (k : Int) (p : List Ev) : Nat := p.countP fun e => e.1 == k

/-- What holds after events. -/
structure Pst (p : List Ev) (s : St) : Prop where
  one : ∀ x, cntS s x ≤ 1
  sum : tot s + evs 2 p = evs 1 p
  add : ∀ (i : Nat) (e : Ev), p[i]? = some e → e.1 = 1 → (∃ (k : Nat) (e' : Ev), i ≤ k ∧ p[k]? = some e' ∧ e'.1 = 2 ∧ e'.2.1 = e.2.1) ∨ 1 ≤ cntS s e.2.1

theorem get_snoc {α : Type} {p : List α} {e x : α} {i : Nat} (h : (p ++ [e])[i]? = some x) : p[i]? = some x ∨ i = p.length ∧ x = e := by
  rcases Nat.lt_trichotomy i p.length with g | g | g
  · rw [List.getElem?_append_left g] at h; exact .inl h
  · subst g
    simp at h
    exact .inr ⟨rfl, h.symm⟩
  · rw [List.getElem?_eq_none (by simp; omega)] at h; cases h

theorem pst_step {w : Nat} {p : List Ev} {s : St} {e : Ev} (h : Pst p s) (hc : chkE s e = 0) : Pst (p ++ [e]) (step w s e) := by
  have hev : ∀ k, evs k (p ++ [e]) = evs k p + if e.1 = k then 1 else 0 := fun k => by
    simp only [evs, List.countP_append, List.countP_singleton, beq_iff_eq]
  have old : ∀ (i : Nat) (x : Ev), p[i]? = some x → (p ++ [e])[i]? = some x := fun i x hx => by
    rw [List.getElem?_append_left (List.getElem?_eq_some_iff.1 hx).1]; exact hx
  by_cases k1 : e.1 = 1
  · obtain ⟨c1, c2⟩ := step_add w s e k1
    have h0 := chk_add hc k1
    refine ⟨fun x => ?_, ?_, fun i y hy hy1 => ?_⟩
    · rw [c1]
      have := h.one x
      split
      · next hx => subst hx; omega
      · omega
    · have := h.sum
      rw [c2, hev, hev, if_neg (by omega), if_pos k1]
      omega
    · rcases get_snoc hy with hy | ⟨_, rfl⟩
      · rcases h.add i y hy hy1 with ⟨k, z, z1, z2, z3⟩ | g
        · exact .inl ⟨k, z, z1, old k z z2, z3⟩
        · right; rw [c1]; omega
      · right; rw [c1, if_pos rfl]; omega
  · have hp := chk_pos hc k1
    by_cases k2 : e.1 = 2
    · obtain ⟨c1, c2⟩ := step_rem w s e k2 hp
      refine ⟨fun x => ?_, ?_, fun i y hy hy1 => ?_⟩
      · have := h.one x
        have := c1 x
        omega
      · have := h.sum
        rw [hev, hev, if_pos k2, if_neg (by omega)]
        omega
      · rcases get_snoc hy with hy | ⟨_, rfl⟩
        · rcases h.add i y hy hy1 with ⟨k, z, z1, z2, z3⟩ | g
          · exact .inl ⟨k, z, z1, old k z z2, z3⟩
          · by_cases hx : e.2.1 = y.2.1
            · exact .inl ⟨p.length, e, Nat.le_of_lt (List.getElem?_eq_some_iff.1 hy).1, by simp, k2, hx⟩
            · right
              have := c1 y.2.1
              rw [if_neg hx] at this
              omega
        · omega
    · obtain ⟨c1, c2⟩ := step_ver w s e k1 k2 hp
      refine ⟨fun x => ?_, ?_, fun i y hy hy1 => ?_⟩
      · rw [c1]; exact h.one x
      · have := h.sum
        rw [c2, hev, hev, if_neg k2, if_neg k1]
        omega
      · rcases get_snoc hy with hy | ⟨_, rfl⟩
        · rcases h.add i y hy hy1 with ⟨k, z, z1, z2, z3⟩ | g
          · exact .inl ⟨k, z, z1, old k z z2, z3⟩
          · right; rw [c1]; exact g
        · omega

theorem pst_run {w : Nat} : ∀ (r p : List Ev) (i : Nat) (s : St), Pst p s → (runL w r i s).1.1 = 0 → Pst (p ++ r) (runL w r i s).2
  | [], p, i, s, h, _ => by rw [List.append_nil]; exact h
  | e :: r, p, i, s, h, hc => by
    simp only [runL] at hc ⊢
    split at hc
    · next h1 =>
      rw [if_pos h1]
      have := pst_run r (p ++ [e]) (i + 1) _ (pst_step h h1) hc
      rw [List.append_assoc] at this
      exact this
    · next h1 => exact absurd hc h1

theorem runQ_ok {w : Int} {es : List Ev} (h : (runQ w es).1.1 = 0) : 1 ≤ w ∧ w ≤ 4 ∧ es.length ≤ 40 ∧ runQ w es = runL w.toNat es 0 ([], ([], [])) := by
  unfold runQ at h ⊢
  split at h
  · exact absurd h (by decide)
  · next h3 =>
    rw [if_neg h3]
    split at h
    · exact absurd h (by decide)
    · next h4 => rw [if_neg h4]; exact ⟨by omega, by omega, by omega, rfl⟩

theorem pst_ok {w : Int} {es : List Ev} (h : (runQ w es).1.1 = 0) : Pst es (runQ w es).2 := by
  obtain ⟨_, _, _, h1⟩ := runQ_ok h
  rw [h1] at h ⊢
  have := pst_run es [] 0 ([], ([], [])) ⟨fun x => by simp [cntS, chg], rfl, fun i e he => by simp at he⟩ h
  exact this

end Mq
end Go.Proofs.Ytpfcgenmgddgpaa

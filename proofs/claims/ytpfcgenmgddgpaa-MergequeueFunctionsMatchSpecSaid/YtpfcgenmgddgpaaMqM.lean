/-
  What the queue's entries keep to. Conditions: none.
-/
import Derived.Test.YtpfcgenmgddgpaaMqH
namespace Go.Proofs.Ytpfcgenmgddgpaa
open Eng
namespace Mq

def flg (e : Ent) : Bool := e.2.2.1 || (e.2.2.2.1 || e.2.2.2.2.1)

/-- At most one state. -/
def One (e : Ent) : Prop := (e.2.2.1 = true → e.2.2.2.1 = false ∧ e.2.2.2.2.1 = false) ∧ (e.2.2.2.1 = true → e.2.2.2.2.1 = false)

/-- Tests run on top of what waits before. -/
def Aft : List Int → List Ent → Prop
  | _, [] => True
  | a, e :: r => e.2.2.2.2.2 = (if flg e = true then a else []) ∧ Aft (a ++ [e.1]) r

def prs (es : List Ent) : List Int := es.map fun e => e.2.1

structure W (es : List Ent) : Prop where
  one : ∀ e, e ∈ es → One e
  aft : Aft [] es
  fall : (prs es).Pairwise fun a b => b ≤ a

theorem disc_eq (a : Nat) (es : List Ent) : disc a es = es.take a ++ (es.drop a).map clrE := by
  apply List.ext_getElem?
  intro k
  unfold disc
  rw [List.getElem?_mapIdx, List.getElem?_append]
  by_cases h : k < (es.take a).length
  · rw [if_pos h]
    rw [List.length_take] at h
    rw [List.getElem?_take, if_pos (by omega)]
    cases es[k]? with
    | none => rfl
    | some e => show some (if a ≤ k then clrE e else e) = some e; rw [if_neg (by omega)]
  · rw [if_neg h, List.getElem?_map, List.getElem?_drop]
    rw [List.length_take] at h ⊢
    rcases Nat.lt_or_ge k es.length with g | g
    · rw [show a + (k - min a es.length) = k from by omega, List.getElem?_eq_getElem g]
      show some (if a ≤ k then clrE es[k] else es[k]) = some (clrE es[k])
      rw [if_pos (by omega)]
    · rw [List.getElem?_eq_none g, List.getElem?_eq_none (by omega)]
      rfl

theorem flg_clr (e : Ent) : flg (clrE e) = false := rfl

theorem aft_clr : ∀ (es : List Ent) (a : List Int), Aft a (es.map clrE)
  | [], _ => trivial
  | e :: r, a => ⟨rfl, aft_clr r _⟩

theorem aft_app : ∀ (x y : List Ent) (a : List Int), Aft a (x ++ y) ↔ Aft a x ∧ Aft (a ++ chg x) y
  | [], y, a => by simp [Aft, chg]
  | e :: r, y, a => by
    have h := aft_app r y (a ++ [e.1])
    simp only [List.cons_append, Aft, chg, List.map_cons] at h ⊢
    rw [h, List.append_assoc, and_assoc]
    rfl

theorem del_no {c : Int} {l : List Int} (h : c ∉ l) : del c l = l := del_none fun x hx e => h (e ▸ hx)

theorem aft_dea (c : Int) : ∀ (es : List Ent) (a : List Int), c ∉ a → c ∉ chg es → Aft (c :: a) es → Aft a (es.map (dea c))
  | [], _, _, _, _ => trivial
  | e :: r, a, ha, hc, h => by
    simp only [chg, List.map_cons, List.mem_cons, not_or] at hc
    refine ⟨?_, aft_dea c r (a ++ [e.1]) (by simp [ha, hc.1]) hc.2 h.2⟩
    show del c e.2.2.2.2.2 = if flg e = true then a else []
    rw [h.1]
    split
    · have : del c (c :: a) = del c a := by simp [del]
      rw [this, del_no ha]
    · rfl

theorem aft_srt : ∀ (n : Nat) (es : List Ent) (a : List Int), Aft a es → Aft a (srt n es a)
  | 0, _, _, h => h
  | _ + 1, [], _, _ => trivial
  | n + 1, e :: r, a, h => by
    simp only [srt]
    cases hb : (!e.2.2.1 && (!e.2.2.2.1 && !e.2.2.2.2.1)) with
    | true => exact ⟨by simp [flg], aft_srt n r _ h.2⟩
    | false => exact ⟨h.1, aft_srt n r _ h.2⟩

theorem prs_disc (a : Nat) (es : List Ent) : prs (disc a es) = prs es := by
  apply List.ext_getElem?
  intro k
  unfold prs disc
  simp only [List.getElem?_map, List.getElem?_mapIdx]
  cases es[k]? with
  | none => rfl
  | some e =>
    simp only [Option.map_some, Option.some.injEq]
    split <;> rfl

theorem prs_dea (c : Int) (es : List Ent) : prs (es.map (dea c)) = prs es := by
  unfold prs
  rw [List.map_map]
  rfl

theorem prs_srt : ∀ (n : Nat) (es : List Ent) (a : List Int), prs (srt n es a) = prs es
  | 0, _, _ => rfl
  | _ + 1, [], _ => rfl
  | n + 1, e :: r, a => by
    have h := prs_srt n r (a ++ [e.1])
    simp only [srt, prs, List.map_cons] at h ⊢
    rw [h]
    cases (!e.2.2.1 && (!e.2.2.2.1 && !e.2.2.2.2.1)) <;> rfl

theorem one_clr (e : Ent) : One (clrE e) := ⟨fun h => absurd h (by simp [clrE]), fun h => absurd h (by simp [clrE])⟩

theorem one_disc {es : List Ent} (h : ∀ e, e ∈ es → One e) (a : Nat) : ∀ e, e ∈ disc a es → One e := by
  intro e he
  rw [disc_eq] at he
  rcases List.mem_append.1 he with g | g
  · exact h e (List.mem_of_mem_take g)
  · obtain ⟨x, _, rfl⟩ := List.mem_map.1 g
    exact one_clr x

theorem one_srt : ∀ (n : Nat) (es : List Ent) (a : List Int), (∀ e, e ∈ es → One e) → ∀ e, e ∈ srt n es a → One e
  | 0, _, _, h => h
  | _ + 1, [], _, h => h
  | n + 1, x :: r, a, h => by
    intro e he
    simp only [srt] at he
    rcases List.mem_cons.1 he with rfl | he
    · cases hb : (!x.2.2.1 && (!x.2.2.2.1 && !x.2.2.2.2.1)) with
      | true =>
        simp only [Bool.and_eq_true, Bool.not_eq_true'] at hb
        exact ⟨fun _ => hb.2, fun _ => hb.2.2⟩
      | false => exact h x (by simp)
    · exact one_srt n r _ (fun e he => h e (List.mem_cons_of_mem _ he)) e he

theorem nodup_cons {e : Ent} {r : List Ent} (h : ∀ x, (chg (e :: r)).count x ≤ 1) : e.1 ∉ chg r ∧ ∀ x, (chg r).count x ≤ 1 := by
  have key : ∀ x, (chg (e :: r)).count x = (chg r).count x + if e.1 = x then 1 else 0 := fun x => by
    simp only [chg, List.map_cons, List.count_cons, beq_iff_eq]
  refine ⟨fun hm => ?_, fun x => ?_⟩
  · have h1 := h e.1
    rw [key, if_pos rfl] at h1
    have h2 : 1 ≤ (chg r).count e.1 := List.one_le_count_iff.2 hm
    omega
  · have h1 := h x
    rw [key] at h1
    omega

theorem stl_w : ∀ (n : Nat) (es : List Ent) (ld rj : List Int), W es → (∀ x, (chg es).count x ≤ 1) → W (stl n es ld rj).1
  | 0, _, _, _, h, _ => h
  | _ + 1, [], _, _, h, _ => h
  | n + 1, e :: r, ld, rj, h, hn => by
    obtain ⟨n1, n2⟩ := nodup_cons hn
    have hf : (prs r).Pairwise fun a b => b ≤ a := (List.pairwise_cons.1 h.fall).2
    have ho : ∀ x, x ∈ r → One x := fun x hx => h.one x (List.mem_cons_of_mem _ hx)
    simp only [stl]
    cases (e.2.2.2.1 || e.2.2.2.2.1) with
    | false => exact h
    | true =>
      simp only [cond_true]
      cases e.2.2.2.2.1 with
      | true => exact stl_w n (disc 0 r) ld (rj ++ [e.1]) ⟨one_disc ho 0, by rw [disc0]; exact aft_clr r [], by rw [prs_disc]; exact hf⟩ (by rw [chg_disc]; exact n2)
      | false =>
        refine stl_w n (r.map (dea e.1)) (ld ++ [e.1]) rj ⟨fun x hx => ?_, aft_dea e.1 r [] (by simp) n1 h.aft.2, by rw [prs_dea]; exact hf⟩ (by rw [chg_dea]; exact n2)
        obtain ⟨y, hy, rfl⟩ := List.mem_map.1 hx
        exact ho y hy

theorem stl_head : ∀ (n : Nat) (es : List Ent) (ld rj : List Int), es.length ≤ n → ∀ e r, (stl n es ld rj).1 = e :: r → (e.2.2.2.1 || e.2.2.2.2.1) = false
  | 0, es, ld, rj, h, e, r, he => by
    have : es = [] := List.length_eq_zero_iff.1 (by omega)
    subst this
    cases he
  | n + 1, [], ld, rj, h, e, r, he => by cases he
  | n + 1, x :: y, ld, rj, h, e, r, he => by
    simp only [List.length_cons] at h
    simp only [stl] at he
    cases hb : (x.2.2.2.1 || x.2.2.2.2.1) with
    | false =>
      rw [hb] at he
      simp only [cond_false, List.cons.injEq] at he
      rw [← he.1]; exact hb
    | true =>
      rw [hb] at he
      simp only [cond_true] at he
      cases hc : x.2.2.2.2.1 with
      | true => rw [hc] at he; exact stl_head n (disc 0 y) ld (rj ++ [x.1]) (by rw [disc_len]; omega) e r he
      | false => rw [hc] at he; exact stl_head n (y.map (dea x.1)) (ld ++ [x.1]) rj (by simp; omega) e r he

theorem srt_first : ∀ (n : Nat) (es : List Ent) (a : List Int) (i : Nat) (e : Ent), (srt n es a)[i]? = some e → i < n → flg e = true
  | 0, _, _, _, _, _, h => by omega
  | _ + 1, [], _, i, e, h, _ => by simp [srt] at h
  | n + 1, x :: r, a, 0, e, h, _ => by
    simp only [srt, List.getElem?_cons_zero, Option.some.injEq] at h
    subst h
    cases hb : (!x.2.2.1 && (!x.2.2.2.1 && !x.2.2.2.2.1)) with
    | true => rfl
    | false =>
      show flg x = true
      unfold flg
      revert hb
      cases x.2.2.1 <;> cases x.2.2.2.1 <;> cases x.2.2.2.2.1 <;> simp
  | n + 1, x :: r, a, i + 1, e, h, hi => by
    simp only [srt, List.getElem?_cons_succ] at h
    exact srt_first n r _ i e h (by omega)

/-- What holds between events. -/
structure Gd (w : Nat) (es : List Ent) : Prop where
  wf : W es
  first : ∀ (i : Nat) (e : Ent), es[i]? = some e → i < w → flg e = true
  head : ∀ e, es[0]? = some e → e.2.2.1 = true

theorem set2_good {w : Nat} {es : List Ent} {ld rj : List Int} (hw : 1 ≤ w) (h : W es) (hn : ∀ x, (chg es).count x ≤ 1) : Gd w (set2 w es ld rj).1 := by
  have h1 := stl_w es.length es ld rj h hn
  have h2 := stl_head es.length es ld rj (Nat.le_refl _)
  have hf : ∀ (i : Nat) (e : Ent), (set2 w es ld rj).1[i]? = some e → i < w → flg e = true := fun i e he hi => srt_first w _ [] i e he hi
  refine ⟨⟨one_srt w _ [] h1.one, aft_srt w _ [] h1.aft, by show (prs (srt w _ [])).Pairwise _; rw [prs_srt]; exact h1.fall⟩, hf, fun e he => ?_⟩
  simp only [set2] at he
  cases hs : (stl es.length es ld rj).1 with
  | nil =>
    rw [hs] at he
    cases w <;> simp [srt] at he
  | cons x r =>
    rw [hs] at he
    have hx := h2 x r hs
    obtain ⟨w, rfl⟩ : ∃ k, w = k + 1 := ⟨w - 1, by omega⟩
    simp only [srt, List.getElem?_cons_zero, Option.some.injEq] at he
    subst he
    simp only [Bool.or_eq_false_iff] at hx
    rw [hx.1, hx.2]
    cases hb : x.2.2.1 with
    | true => simpa using hb
    | false => simp

end Mq
end Go.Proofs.Ytpfcgenmgddgpaa

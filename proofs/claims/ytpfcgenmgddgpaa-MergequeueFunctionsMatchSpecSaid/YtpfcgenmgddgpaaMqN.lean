/-
  Tests run on top of what lands. Conditions: none.
-/
import Derived.Test.YtpfcgenmgddgpaaMqM
namespace Go.Proofs.Ytpfcgenmgddgpaa
open Eng
namespace Mq

theorem plc_spec (p : Int) : ∀ (es : List Ent) (i k : Nat), k ≤ i → (plc p es i k = k ∨ ∃ j e, plc p es i k = i + j + 1 ∧ es[j]? = some e ∧ p ≤ e.2.1) ∧ ∀ (j : Nat) (e : Ent), es[j]? = some e → plc p es i k ≤ i + j → e.2.1 < p
  | [], i, k, _ => ⟨.inl rfl, fun j e h => by simp at h⟩
  | x :: r, i, k, hk => by
    simp only [plc]
    obtain ⟨h1, h2⟩ := plc_spec p r (i + 1) (if x.2.1 ≥ p then i + 1 else k) (by split <;> omega)
    refine ⟨?_, fun j e hj hle => ?_⟩
    · rcases h1 with h1 | ⟨j, e, h3, h4, h5⟩
      · by_cases hx : x.2.1 ≥ p
        · rw [if_pos hx] at h1 ⊢
          exact .inr ⟨0, x, by omega, rfl, hx⟩
        · rw [if_neg hx] at h1 ⊢
          exact .inl h1
      · exact .inr ⟨j + 1, e, by omega, h4, h5⟩
    · cases j with
      | zero =>
        simp only [List.getElem?_cons_zero, Option.some.injEq] at hj
        subst hj
        refine Int.not_le.1 fun hx => ?_
        rw [if_pos hx] at hle h1
        rcases h1 with h1 | ⟨j, e, h3, _, _⟩ <;> omega
      | succ j =>
        simp only [List.getElem?_cons_succ] at hj
        exact h2 j e hj (by omega)

theorem addE_eq (c p : Int) (es : List Ent) : addE c p es = es.take (plc p es 0 0) ++ new c p :: (es.drop (plc p es 0 0)).map clrE := by
  have hk := plc_le p es 0 0 (Nat.le_refl _)
  have hl : (es.take (plc p es 0 0) ++ [new c p]).length = plc p es 0 0 + 1 := by simp; omega
  unfold addE
  rw [disc_eq]
  rw [List.take_append_of_le_length (by omega), List.take_of_length_le (by omega), List.drop_append_of_le_length (by omega), List.drop_of_length_le (by omega)]
  simp

theorem cut_eq (k : Nat) (es : List Ent) (hk : k < es.length) : disc k (es.take k ++ es.drop (k + 1)) = es.take k ++ (es.drop (k + 1)).map clrE := by
  have hl : (es.take k).length = k := by rw [List.length_take]; omega
  rw [disc_eq, List.take_append_of_le_length (by omega), List.drop_append_of_le_length (by omega), List.take_take, Nat.min_self, List.drop_of_length_le (l := es.take k) (by omega)]
  rfl

theorem prs_app (a b : List Ent) : prs (a ++ b) = prs a ++ prs b := by simp [prs]
theorem prs_clr (a : List Ent) : prs (a.map clrE) = prs a := by
  unfold prs
  rw [List.map_map]
  rfl
theorem chg_clr (a : List Ent) : chg (a.map clrE) = chg a := by
  unfold chg
  rw [List.map_map]
  rfl

theorem W.take {es : List Ent} (h : W es) (k : Nat) : Aft [] (es.take k) ∧ (prs (es.take k) ++ prs (es.drop k)).Pairwise (fun a b => b ≤ a) := by
  have h1 := h.aft
  rw [← List.take_append_drop k es, aft_app] at h1
  refine ⟨h1.1, ?_⟩
  rw [← prs_app, List.take_append_drop]
  exact h.fall

theorem add_w {c p : Int} {es : List Ent} (h : W es) : W (addE c p es) := by
  rw [addE_eq]
  have hk := plc_le p es 0 0 (Nat.le_refl _)
  obtain ⟨s1, s2⟩ := plc_spec p es 0 0 (Nat.le_refl _)
  generalize plc p es 0 0 = k at *
  obtain ⟨a1, a2⟩ := h.take k
  refine ⟨fun e he => ?_, ?_, ?_⟩
  · rcases List.mem_append.1 he with g | g
    · exact h.one e (List.mem_of_mem_take g)
    · rcases List.mem_cons.1 g with rfl | g
      · exact ⟨fun h => absurd h (by simp [new]), fun h => absurd h (by simp [new])⟩
      · obtain ⟨x, _, rfl⟩ := List.mem_map.1 g
        exact one_clr x
  · rw [aft_app]
    exact ⟨a1, rfl, aft_clr _ _⟩
  · rw [List.pairwise_append] at a2
    rw [prs_app]
    have e1 : prs (new c p :: (es.drop k).map clrE) = p :: prs (es.drop k) := by
      rw [← prs_clr (es.drop k)]
      rfl
    rw [e1, List.pairwise_append, List.pairwise_cons]
    have hd : ∀ b, b ∈ prs (es.drop k) → b ≤ p := fun b hb => by
      obtain ⟨x, hx, rfl⟩ := List.mem_map.1 hb
      obtain ⟨j, hj, rfl⟩ := List.getElem_of_mem hx
      have : es[k + j]? = some (es.drop k)[j] := by rw [← List.getElem?_drop, List.getElem?_eq_getElem hj]
      have := s2 (k + j) _ this (by omega)
      omega
    refine ⟨a2.1, ⟨hd, a2.2.1⟩, fun a ha b hb => ?_⟩
    have hp : p ≤ a := by
      rcases s1 with s1 | ⟨j, e, s3, s4, s5⟩
      · subst s1
        simp [prs] at ha
      · obtain ⟨x, hx, rfl⟩ := List.mem_map.1 ha
        obtain ⟨i, hi, hxi⟩ := List.getElem_of_mem hx
        have hjk : j < k := by omega
        have hfall := (List.pairwise_append.1 (show (prs (es.take k) ++ []).Pairwise _ by rw [List.append_nil]; exact a2.1)).1
        have hl : (prs (es.take k)).length = k := by simp [prs]; omega
        rw [List.length_take] at hi
        have e2 : (prs (es.take k))[i]'(by omega) = x.2.1 := by
          simp only [prs, List.getElem_map, hxi]
        have e3 : (prs (es.take k))[j]'(by omega) = e.2.1 := by
          have : (es.take k)[j]'(by rw [List.length_take]; omega) = e := by
            rw [List.getElem_take]
            exact (List.getElem?_eq_some_iff.1 s4).2
          simp only [prs, List.getElem_map, this]
        rcases Nat.lt_trichotomy i j with g | g | g
        · have := List.pairwise_iff_getElem.1 hfall i j (by omega) (by omega) g
          rw [e2, e3] at this
          omega
        · subst g
          rw [e2] at e3
          omega
        · omega
    rcases List.mem_cons.1 hb with rfl | hb
    · exact hp
    · have := hd b hb
      omega

theorem cut_w {k : Nat} {es : List Ent} (h : W es) (hk : k < es.length) : W (disc k (es.take k ++ es.drop (k + 1))) := by
  rw [cut_eq k es hk]
  obtain ⟨a1, _⟩ := h.take k
  refine ⟨fun e he => ?_, ?_, ?_⟩
  · rcases List.mem_append.1 he with g | g
    · exact h.one e (List.mem_of_mem_take g)
    · obtain ⟨x, _, rfl⟩ := List.mem_map.1 g
      exact one_clr x
  · rw [aft_app]
    exact ⟨a1, aft_clr _ _⟩
  · rw [prs_app, prs_clr, ← prs_app]
    refine h.fall.sublist ?_
    unfold prs
    refine List.Sublist.map _ ?_
    conv => rhs; rw [← List.take_append_drop k es]
    refine List.Sublist.append_left ?_ _
    rw [List.drop_eq_getElem_cons hk]
    exact List.sublist_cons_self _ _

theorem set_split {es : List Ent} {k : Nat} {e : Ent} (h : es[k]? = some e) (y : Ent) : es = es.take k ++ e :: es.drop (k + 1) ∧ es.set k y = es.take k ++ y :: es.drop (k + 1) := by
  have hk := (List.getElem?_eq_some_iff.1 h).1
  have h2 : es[k] = e := (List.getElem?_eq_some_iff.1 h).2
  refine ⟨by rw [← h2, ← List.drop_eq_getElem_cons hk, List.take_append_drop], ?_⟩
  rw [List.set_eq_take_append_cons_drop, if_pos hk]

theorem vrd_w {k : Nat} {es : List Ent} {e : Ent} {kd : Int} (h : W es) (he : es[k]? = some e) (ht : e.2.2.1 = true) (hkd : kd = 3 ∨ kd = 4) : W (es.set k (vrd kd e)) := by
  obtain ⟨q1, q2⟩ := set_split he (vrd kd e)
  rw [q2]
  have h1 := h.aft
  have h2 := h.fall
  have h3 := h.one
  rw [q1] at h1 h2 h3
  rw [aft_app] at h1
  have hf : flg e = true := by simp [flg, ht]
  have hv : flg (vrd kd e) = true := by rcases hkd with rfl | rfl <;> rfl
  refine ⟨fun x hx => ?_, ?_, ?_⟩
  · rcases List.mem_append.1 hx with g | g
    · exact h3 x (List.mem_append.2 (.inl g))
    · rcases List.mem_cons.1 g with rfl | g
      · rcases hkd with rfl | rfl
        · exact ⟨fun h => absurd h (by simp [vrd]), fun _ => rfl⟩
        · exact ⟨fun h => absurd h (by simp [vrd]), fun h => absurd h (by simp [vrd])⟩
      · exact h3 x (List.mem_append.2 (.inr (List.mem_cons_of_mem _ g)))
  · rw [aft_app]
    refine ⟨h1.1, ?_, h1.2.2⟩
    have h5 := h1.2.1
    rw [if_pos hf] at h5
    rw [if_pos hv]
    exact h5
  · rw [prs_app] at h2 ⊢
    exact h2

theorem chk_ver {s : St} {e : Ev} (h : chkE s e = 0) (h1 : e.1 ≠ 1) (h2 : e.1 ≠ 2) : (e.1 = 3 ∨ e.1 = 4) ∧ (s.1.getD (pos e.2.1 s.1).toNat e0).2.2.1 = true := by
  unfold chkE chk at h
  by_cases a : e.1 < 1 ∨ e.1 > 4
  · rw [if_pos a] at h; exact absurd h (by decide)
  rw [if_neg a] at h
  by_cases b : e.2.1 < 1 ∨ e.2.1 > 1000000000 ∨ e.2.2 < 0 ∨ e.2.2 > 3
  · rw [if_pos b] at h; exact absurd h (by decide)
  rw [if_neg b] at h
  by_cases d : e.1 ≠ 1 ∧ e.2.2 ≠ 0
  · rw [if_pos d] at h; exact absurd h (by decide)
  rw [if_neg d, if_neg (fun g => h1 g.1), if_neg (fun g => h1 g.1)] at h
  by_cases f : e.1 ≠ 1 ∧ pos e.2.1 s.1 < 0
  · rw [if_pos f] at h; exact absurd h (by decide)
  rw [if_neg f] at h
  by_cases g : e.1 ≥ 3 ∧ (s.1.getD (pos e.2.1 s.1).toNat e0).2.2.1 = false
  · rw [if_pos g] at h; exact absurd h (by decide)
  refine ⟨by omega, ?_⟩
  cases hb : (s.1.getD (pos e.2.1 s.1).toNat e0).2.2.1 with
  | true => rfl
  | false => exact absurd ⟨by omega, hb⟩ g

theorem step_gd {w : Nat} {p : List Ev} {s : St} {e : Ev} (hw : 1 ≤ w) (hG : Gd w s.1) (hP : Pst p s) (hc : chkE s e = 0) : Gd w (step w s e).1 := by
  have hn : ∀ x, (chg s.1).count x ≤ 1 := fun x => by
    have := hP.one x
    unfold cntS at this
    omega
  unfold step
  by_cases k1 : e.1 = 1
  · rw [if_pos k1]
    refine set2_good hw (add_w hG.wf) fun x => ?_
    have h0 := chk_add hc k1
    unfold cntS at h0
    have h1 : (chg s.1).count x = (chg (s.1.take (plc e.2.2 s.1 0 0))).count x + (chg (s.1.drop (plc e.2.2 s.1 0 0))).count x := by
      rw [← List.count_append, ← chg_app, List.take_append_drop]
    have h2 := hn x
    rw [addE_eq, chg_app, List.count_append]
    have h3 : chg (new e.2.1 e.2.2 :: (s.1.drop (plc e.2.2 s.1 0 0)).map clrE) = e.2.1 :: chg (s.1.drop (plc e.2.2 s.1 0 0)) := by
      rw [← chg_clr (s.1.drop _)]
      rfl
    rw [h3, List.count_cons]
    simp only [beq_iff_eq]
    split
    · next hx => subst hx; omega
    · omega
  rw [if_neg k1]
  obtain ⟨k, y, p1, p2, p3⟩ := pos_nat (chk_pos hc k1)
  have hk := (List.getElem?_eq_some_iff.1 p2).1
  by_cases k2 : e.1 = 2
  · rw [if_pos k2, p1, Int.toNat_natCast]
    refine set2_good hw (cut_w hG.wf hk) fun x => ?_
    have h2 := hn x
    rw [chg_get p2, List.count_append, List.count_cons] at h2
    rw [chg_disc, chg_app, List.count_append]
    omega
  · obtain ⟨v1, v2⟩ := chk_ver hc k1 k2
    rw [p1, Int.toNat_natCast, getD_of _ p2] at v2
    rw [if_neg k2, p1, Int.toNat_natCast, getD_of _ p2]
    refine set2_good hw (vrd_w hG.wf p2 v2 v1) fun x => ?_
    have h2 := hn x
    rw [chg_get p2] at h2
    rw [(set_split p2 (vrd e.1 y)).2, chg_app]
    exact h2

theorem gd_run {w : Nat} (hw : 1 ≤ w) : ∀ (r p : List Ev) (i : Nat) (s : St), Pst p s → Gd w s.1 → (runL w r i s).1.1 = 0 → Gd w (runL w r i s).2.1
  | [], p, i, s, _, h, _ => h
  | e :: r, p, i, s, hP, h, hc => by
    simp only [runL] at hc ⊢
    split at hc
    · next h1 =>
      rw [if_pos h1]
      exact gd_run hw r (p ++ [e]) (i + 1) _ (pst_step hP h1) (step_gd hw h hP h1) hc
    · next h1 => exact absurd hc h1

theorem pst_nil : Pst [] ([], ([], [])) := ⟨fun x => by simp [cntS, chg], rfl, fun i e he => by simp at he⟩
theorem gd_nil (w : Nat) : Gd w [] := ⟨⟨fun e he => by simp at he, trivial, List.Pairwise.nil⟩, fun i e he => by simp at he, fun e he => by simp at he⟩

theorem gd_ok {w : Int} {es : List Ev} (h : (runQ w es).1.1 = 0) : Gd w.toNat (runQ w es).2.1 := by
  obtain ⟨h2, _, _, h1⟩ := runQ_ok h
  rw [h1] at h ⊢
  exact gd_run (by omega) es [] 0 ([], ([], [])) pst_nil (gd_nil _) h

theorem aft_get : ∀ (es : List Ent) (a : List Int) (i : Nat) (e : Ent), Aft a es → es[i]? = some e → e.2.2.2.2.2 = if flg e = true then a ++ chg (es.take i) else []
  | x :: r, a, 0, e, h, he => by
    simp only [List.getElem?_cons_zero, Option.some.injEq] at he
    subst he
    have h1 := h.1
    simpa [chg] using h1
  | x :: r, a, i + 1, e, h, he => by
    simp only [List.getElem?_cons_succ] at he
    have h1 := aft_get r (a ++ [x.1]) i e h.2 he
    rw [h1, List.take_succ_cons]
    simp [chg]

end Mq
end Go.Proofs.Ytpfcgenmgddgpaa

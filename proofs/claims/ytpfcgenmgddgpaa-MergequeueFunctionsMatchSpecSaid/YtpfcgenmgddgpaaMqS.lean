/-
  The reference: inserting and settling. Conditions: none.
-/
import Derived.Test.YtpfcgenmgddgpaaMqQ
namespace Go.Proofs.Ytpfcgenmgddgpaa
open Eng
namespace Mq

def insR (c p : Int) : Bool → List Ent → List Ent
  | true, es => es.map clrE
  | false, [] => [new c p]
  | false, e :: r => if e.2.1 < p then new c p :: clrE e :: r.map clrE else e :: insR c p false r

theorem ins_j4 {es a : List Ent} {k : Nat} {pl : Bool} (hb : es.length ≤ 1000) (ha : a.length ≤ k + 1) (hk : k < es.length) {Kn : Bool → List Int → List Int → List Int → Prop} {y : Ent} (h1 : y.1 = es[k].1) (h2 : y.2.1 = es[k].2.1)
    (h3 : stt y = if pl = true then 0 else stt es[k]) (hK : Kn pl (chg (a ++ [y])) (prs (a ++ [y])) (sts (a ++ [y]))) : L.ref8_Queue_insert_h22_J4 pl k (chg es) (prs es) (sts es) (chg a) (prs a) (sts a) Kn := by
  have hin : ∀ n : Nat, n = es.length → inB (k : Int) n := fun n hn => ⟨by omega, by omega⟩
  have e1 : chg a ++ [y.1] = chg (a ++ [y]) := by rw [chg_app]; rfl
  have e2 : prs a ++ [y.2.1] = prs (a ++ [y]) := by rw [prs_app]; rfl
  have e3 : sts a ++ [stt y] = sts (a ++ [y]) := by rw [sts_app]; rfl
  have j3 : L.ref8_Queue_insert_h22_J3 k (stt y) (chg es) (prs es) (chg a) (prs a) (sts a) (Kn pl) := by
    refine ⟨?_⟩
    unfold L.ref8_Queue_insert_h22_J3_B
    rw [Int.toNat_natCast, chg_at hk, prs_at hk, ← h1, ← h2, e1, e2, e3]
    exact ⟨hin _ (len_chg es), by unfold fits; simp [len_chg]; omega, hin _ (len_prs es), by unfold fits; simp [len_prs]; omega, by unfold fits; simp [len_sts]; omega, hK⟩
  refine ⟨?_⟩
  unfold L.ref8_Queue_insert_h22_J4_B
  rw [len_chg, len_sts]
  refine cond_t (by simp; omega) ⟨hin _ rfl, ?_⟩
  rw [Int.toNat_natCast, sts_at hk]
  cases pl with
  | true => rw [if_pos rfl] at h3; rw [h3] at j3; exact j3
  | false => rw [if_neg (by decide)] at h3; rw [h3] at j3; exact j3

theorem ins_j4e {es a : List Ent} {pl : Bool} {Kn : Bool → List Int → List Int → List Int → Prop} (hK : Kn pl (chg a) (prs a) (sts a)) : L.ref8_Queue_insert_h22_J4 pl (es.length : Int) (chg es) (prs es) (sts es) (chg a) (prs a) (sts a) Kn := by
  refine ⟨?_⟩
  unfold L.ref8_Queue_insert_h22_J4_B
  rw [len_chg]
  exact cond_f (by simp) hK

theorem ins_loop {c p : Int} {es : List Ent} (hb : es.length ≤ 900) {F : List Ent} {K : List Int → List Int → List Int → Prop} (hK : K (chg F) (prs F) (sts F)) : ∀ (fu k : Nat) (pl : Bool) (a : List Ent), k ≤ es.length → es.length + 2 - k ≤ fu → a.length ≤ k + 1 → (pl = false → a.length ≤ k) →
    a ++ insR c p pl (es.drop k) = F → L.ref8_Queue_insert_h22_L1_R c p (chg es) (prs es) (sts es) fu pl k (chg a) (prs a) (sts a) K
  | 0, k, pl, a, _, h, _, _, _ => by omega
  | fu + 1, k, pl, a, hk, h, ha, ha2, hF => by
    have fin : ∀ (q : Bool) (b : List Ent), b = F → L.ref8_Queue_insert_h22_L1_R c p (chg es) (prs es) (sts es) fu q ((es.length + 1 : Nat) : Int) (chg b) (prs b) (sts b) K := fun q b hb2 => by
      obtain ⟨fu, rfl⟩ : ∃ n, fu = n + 1 := ⟨fu - 1, by omega⟩
      show L.ref8_Queue_insert_h22_L1_b c p (chg es) (prs es) (sts es) q ((es.length + 1 : Nat) : Int) (chg b) (prs b) (sts b) _ K
      unfold L.ref8_Queue_insert_h22_L1_b
      rw [hb2]
      exact cond_f (by rw [len_chg]; simp; omega) hK
    show L.ref8_Queue_insert_h22_L1_b c p (chg es) (prs es) (sts es) pl k (chg a) (prs a) (sts a) _ K
    unfold L.ref8_Queue_insert_h22_L1_b
    rw [len_chg, len_prs]
    refine cond_t (by simp; omega) ⟨fun _ h2 => ⟨by omega, ?_⟩, ?_⟩
    · have h3 : (k : Int) ≠ (es.length : Int) := by
        intro h4
        rw [h4] at h2
        simp at h2
      omega
    rw [Int.toNat_natCast, i64_succ (i := k) (by omega)]
    have e1 : chg a ++ [c] = chg (a ++ [new c p]) := by rw [chg_app]; rfl
    have e2 : prs a ++ [p] = prs (a ++ [new c p]) := by rw [prs_app]; rfl
    have e3 : sts a ++ [0] = sts (a ++ [new c p]) := by rw [sts_app]; rfl
    have f1 : fits ((chg a).length + ([c] : List Int).length) := by unfold fits; simp [len_chg]; omega
    have f2 : fits ((prs a).length + ([p] : List Int).length) := by unfold fits; simp [len_prs]; omega
    have f3 : fits ((sts a).length + ([0] : List Int).length) := by unfold fits; simp [len_sts]; omega
    rcases Nat.lt_or_ge k es.length with g | g
    · have hke : ((k : Int) == (es.length : Int)) = false := by rw [beq_eq_false_iff_ne]; omega
      rw [hke, prs_at g]
      rw [List.drop_eq_getElem_cons g] at hF
      cases pl with
      | true =>
        simp only [insR, List.map_cons] at hF
        refine cond_f rfl (ins_j4 (by omega) ha g (y := clrE es[k]) rfl rfl rfl ?_)
        exact ins_loop hb hK fu (k + 1) true (a ++ [clrE es[k]]) g (by omega) (by simp; omega) (fun h => by cases h) (by rw [List.append_assoc]; simp only [insR]; exact hF)
      | false =>
        simp only [insR] at hF
        have ha3 := ha2 rfl
        by_cases hp : es[k].2.1 < p
        · rw [if_pos hp] at hF
          refine cond_t (by simpa using hp) ⟨f1, f2, f3, ?_⟩
          rw [e1, e2, e3]
          refine ins_j4 (by omega) (by simp; omega) g (y := clrE es[k]) rfl rfl rfl ?_
          exact ins_loop hb hK fu (k + 1) true (a ++ [new c p] ++ [clrE es[k]]) g (by omega) (by simp; omega) (fun h => by cases h) (by rw [List.append_assoc, List.append_assoc]; simp only [insR]; exact hF)
        · rw [if_neg hp] at hF
          refine cond_f (by simpa using hp) (ins_j4 (by omega) ha g (y := es[k]) rfl rfl rfl ?_)
          exact ins_loop hb hK fu (k + 1) false (a ++ [es[k]]) g (by omega) (by simp; omega) (fun _ => by simp; omega) (by rw [List.append_assoc]; exact hF)
    · obtain rfl : k = es.length := by omega
      rw [List.drop_length] at hF
      cases pl with
      | true =>
        simp only [insR, List.map_nil, List.append_nil] at hF
        exact cond_f rfl (ins_j4e (fin _ _ hF))
      | false =>
        simp only [insR] at hF
        refine cond_t (by simp) ⟨f1, f2, f3, ?_⟩
        rw [e1, e2, e3]
        exact ins_j4e (fin _ _ hF)

theorem ins_ok {c p : Int} {es : List Ent} {ld rj : List Int} (hb : es.length ≤ 900) {K : List Int → List Int → List Int → List Int → List Int → Prop} (hK : K ld rj (chg (insR c p false es)) (prs (insR c p false es)) (sts (insR c p false es))) :
    L.ref8_Queue_insert_h22 (chg es) (prs es) (sts es) ld rj c p K :=
  ⟨⟨⟨es.length + 2, ins_loop (F := insR c p false es) hb hK (es.length + 2) 0 false [] (by omega) (by omega) (by simp) (fun _ => by simp) rfl⟩⟩⟩

theorem insR_at {c p : Int} : ∀ (es : List Ent) (k : Nat), k ≤ es.length → (∀ (j : Nat) (e : Ent), j < k → es[j]? = some e → p ≤ e.2.1) → (∀ e, es[k]? = some e → e.2.1 < p) → insR c p false es = es.take k ++ new c p :: (es.drop k).map clrE
  | [], k, _, _, _ => by simp [insR]
  | e :: r, 0, _, _, h2 => by
    simp only [insR]
    rw [if_pos (h2 e rfl)]
    rfl
  | e :: r, k + 1, hk, h1, h2 => by
    simp only [insR]
    have := h1 0 e (by omega) rfl
    rw [if_neg (by omega), insR_at r k (by simpa using hk) (fun j x hj hx => h1 (j + 1) x (by omega) hx) h2]
    rfl

theorem insR_add {c p : Int} {es : List Ent} (h : W es) : insR c p false es = addE c p es := by
  rw [addE_eq]
  have hk := plc_le p es 0 0 (Nat.le_refl _)
  obtain ⟨s1, s2⟩ := plc_spec p es 0 0 (Nat.le_refl _)
  refine insR_at es _ (by omega) (fun j e hj he => ?_) (fun e he => s2 _ e he (by omega))
  rcases s1 with s1 | ⟨i, x, s3, s4, s5⟩
  · omega
  · have hjl := (List.getElem?_eq_some_iff.1 he).1
    have hil := (List.getElem?_eq_some_iff.1 s4).1
    have a1 : (prs es)[j]'(by rw [len_prs]; exact hjl) = e.2.1 := by
      simp only [prs, List.getElem_map, (List.getElem?_eq_some_iff.1 he).2]
    have a2 : (prs es)[i]'(by rw [len_prs]; exact hil) = x.2.1 := by
      simp only [prs, List.getElem_map, (List.getElem?_eq_some_iff.1 s4).2]
    rcases Nat.lt_trichotomy j i with g | g | g
    · have := List.pairwise_iff_getElem.1 h.fall j i (by rw [len_prs]; exact hjl) (by rw [len_prs]; exact hil) g
      rw [a1, a2] at this
      omega
    · subst g
      rw [a1] at a2
      omega
    · omega

theorem stt_big {e : Ent} (h : One e) : (stt e > 1 ↔ (e.2.2.2.1 || e.2.2.2.2.1) = true) ∧ (stt e = 2 ↔ e.2.2.2.1 = true) := by
  obtain ⟨h1, h2⟩ := h
  unfold stt
  revert h1 h2
  cases e.2.2.1 <;> cases e.2.2.2.1 <;> cases e.2.2.2.2.1 <;> simp

theorem sts_dea (c : Int) (es : List Ent) : sts (es.map (dea c)) = sts es := by
  unfold sts
  rw [List.map_map]
  rfl

theorem one_dea {c : Int} {es : List Ent} (h : ∀ e, e ∈ es → One e) : ∀ e, e ∈ es.map (dea c) → One e := fun e he => by
  obtain ⟨y, hy, rfl⟩ := List.mem_map.1 he
  exact h y hy

theorem rset_loop {K : List Int → List Int → List Int → List Int → List Int → Prop} : ∀ (fu n : Nat) (es : List Ent) (ld rj : List Int), es.length ≤ n → n < fu → ld.length + rj.length + es.length ≤ 900 → (∀ e, e ∈ es → One e) →
    K (stl n es ld rj).2.1 (stl n es ld rj).2.2 (chg (stl n es ld rj).1) (prs (stl n es ld rj).1) (sts (stl n es ld rj).1) → L.ref8_Queue_settled_h24_L1_R fu ld rj (chg es) (prs es) (sts es) K
  | 0, n, es, ld, rj, _, h, _, _, _ => by omega
  | fu + 1, n, es, ld, rj, hn, hf, hT, hO, hK => by
    show L.ref8_Queue_settled_h24_L1_b ld rj (chg es) (prs es) (sts es) _ K
    unfold L.ref8_Queue_settled_h24_L1_b
    cases es with
    | nil =>
      have e : stl n [] ld rj = ([], (ld, rj)) := by cases n <;> rfl
      rw [e] at hK
      exact ⟨fun h => by simp [chg] at h, cond_f (by simp [chg]) hK⟩
    | cons e r =>
      obtain ⟨n, rfl⟩ : ∃ k, n = k + 1 := ⟨n - 1, by simp at hn; omega⟩
      simp only [List.length_cons] at hn hT
      have hOr : ∀ x, x ∈ r → One x := fun x hx => hO x (List.mem_cons_of_mem _ hx)
      obtain ⟨b1, b2⟩ := stt_big (hO e (by simp))
      have hin : ∀ l : List Int, l.length = (e :: r).length → inB 0 l.length := fun l hl => ⟨by omega, by rw [hl]; simp⟩
      have hs : (sts (e :: r)).getD ((0 : Int).toNat) 0 = stt e := rfl
      have hc : (chg (e :: r)).getD ((0 : Int).toNat) 0 = e.1 := rfl
      have hgt : decide (((chg (e :: r)).length : Int) > 0) = true := by simp [len_chg]
      rw [hs, hc, hgt]
      refine ⟨fun _ => hin _ (len_sts _), ?_⟩
      simp only [cond_true]
      simp only [stl] at hK
      cases hp : (e.2.2.2.1 || e.2.2.2.2.1) with
      | false =>
        rw [hp] at hK
        exact cond_f (decide_eq_false fun h => by rw [b1.1 h] at hp; cases hp) hK
      | true =>
        rw [hp] at hK
        simp only [cond_true] at hK
        refine cond_t (decide_eq_true (b1.2 hp)) ⟨hin _ (len_chg _), hin _ (len_sts _), ?_⟩
        cases hfl : e.2.2.2.2.1 with
        | true =>
          rw [hfl] at hK
          simp only [cond_true] at hK
          have h2 : ¬ (stt e = 2) := fun h => by
            have := (hO e (by simp)).2 (b2.1 h)
            rw [hfl] at this; cases this
          refine cond_f (by simpa using h2) (cut_ok (by simp; omega) ⟨by unfold fits; simp; omega, by unfold fits; simp; omega, ?_⟩)
          have hcut : cutR 0 true (e :: r) 0 = disc 0 r := by
            have := cutR_t 0 (e :: r)
            rw [disc0]
            simpa using this
          rw [hcut, List.nil_append]
          exact rset_loop fu n (disc 0 r) ld (rj ++ [e.1]) (by rw [disc_len]; omega) (by omega) (by rw [disc_len]; simp; omega) (one_disc hOr 0) hK
        | false =>
          rw [hfl] at hK hp
          simp only [cond_false] at hK
          have h2 : stt e = 2 := b2.2 (by simpa using hp)
          refine cond_t (by simpa using h2) (cut_ok (by simp; omega) ⟨by unfold fits; simp; omega, by unfold fits; simp; omega, ?_⟩)
          have hcut : cutR 0 false (e :: r) 0 = r := by
            have := cutR_f 0 (e :: r)
            simpa using this
          rw [hcut, List.nil_append]
          have := rset_loop fu n (r.map (dea e.1)) (ld ++ [e.1]) rj (by simp; omega) (by omega) (by simp; omega) (one_dea hOr) hK
          rw [chg_dea, prs_dea, sts_dea] at this
          exact this

def fst1 : Nat → List Int → List Int
  | 0, l => l
  | _ + 1, [] => []
  | n + 1, x :: r => (if x = 0 then 1 else x) :: fst1 n r

theorem sts_srt : ∀ (n : Nat) (es : List Ent) (a : List Int), sts (srt n es a) = fst1 n (sts es)
  | 0, _, _ => rfl
  | _ + 1, [], _ => rfl
  | n + 1, e :: r, a => by
    have h := sts_srt n r (a ++ [e.1])
    simp only [srt, sts, List.map_cons, fst1] at h ⊢
    rw [h]
    congr 1
    unfold stt
    cases h1 : e.2.2.1 <;> cases h2 : e.2.2.2.1 <;> cases h3 : e.2.2.2.2.1 <;> simp [h1, h2, h3]

theorem rsta_loop {n : Nat} {ch F : List Int} (hb : ch.length ≤ 1000) {K : List Int → Prop} (hK : K F) : ∀ (fu i : Nat) (l : List Int), l.length = ch.length → i ≤ min n ch.length → min n ch.length - i < fu → l.take i ++ fst1 (n - i) (l.drop i) = F → L.ref8_Queue_settled_h24_L2_R n ch fu i l K
  | 0, i, l, _, _, h, _ => by omega
  | fu + 1, i, l, hl, hi, h, hF => by
    show L.ref8_Queue_settled_h24_L2_b n ch i l _ K
    unfold L.ref8_Queue_settled_h24_L2_b
    rcases Nat.lt_or_ge i (min n ch.length) with k | k
    · have hil : i < l.length := by omega
      have hin : inB (i : Int) l.length := ⟨by omega, by omega⟩
      refine cond_t (by simp only [band, Bool.and_eq_true, decide_eq_true_eq]; omega) ⟨hin, ?_⟩
      rw [Int.toNat_natCast, i64_succ (i := i) (by omega), getD_get _ _ _ hil]
      have hni : n - i = (n - (i + 1)) + 1 := by omega
      rw [List.drop_eq_getElem_cons hil, hni] at hF
      simp only [fst1] at hF
      by_cases h0 : l[i] = 0
      · rw [if_pos h0] at hF
        refine cond_t (by simpa using h0) ⟨hin, rsta_loop hb hK fu (i + 1) (l.set i 1) (by simp [hl]) (by omega) (by omega) ?_⟩
        rw [List.take_add_one, List.getElem?_set, if_pos rfl, if_pos hil, List.take_set_of_le (Nat.le_refl _), List.drop_set_of_lt (by omega), ← hF]
        simp
      · rw [if_neg h0] at hF
        refine cond_f (by simpa using h0) (rsta_loop hb hK fu (i + 1) l hl (by omega) (by omega) ?_)
        have e1 : l.take (i + 1) = l.take i ++ [l[i]] := by rw [List.take_add_one, List.getElem?_eq_getElem hil]; rfl
        rw [e1, ← hF, List.append_assoc]
        rfl
    · refine cond_f (by simp only [band, Bool.and_eq_false_iff, decide_eq_false_iff_not]; omega) ?_
      have : l.take i ++ fst1 (n - i) (l.drop i) = l := by
        rcases Nat.lt_or_ge i l.length with g | g
        · have : n - i = 0 := by omega
          rw [this]
          simp only [fst1, List.take_append_drop]
        · rw [List.take_of_length_le g, List.drop_of_length_le g]
          cases n - i <;> simp [fst1]
      rw [this] at hF
      rw [hF]
      exact hK

theorem rset_ok {w : Nat} {es : List Ent} {ld rj : List Int} (hT : ld.length + rj.length + es.length ≤ 900) (hO : ∀ e, e ∈ es → One e) {K : List Int → List Int → List Int → List Int → List Int → Prop}
    (hK : K (set2 w es ld rj).2.1 (set2 w es ld rj).2.2 (chg (set2 w es ld rj).1) (prs (set2 w es ld rj).1) (sts (set2 w es ld rj).1)) : L.ref8_Queue_settled_h24 ld rj w (chg es) (prs es) (sts es) K := by
  have h2 := stl_tot es.length es ld rj
  refine ⟨⟨⟨es.length + 1, rset_loop (es.length + 1) es.length es ld rj (Nat.le_refl _) (by omega) hT hO ⟨⟨(stl es.length es ld rj).1.length + 1, ?_⟩⟩⟩⟩⟩
  simp only [set2, chg_srt, prs_srt, sts_srt] at hK
  exact rsta_loop (n := w) (F := fst1 w (sts (stl es.length es ld rj).1)) (by rw [len_chg]; omega) hK _ 0 _ (by rw [len_sts, len_chg]) (by omega) (by rw [len_chg]; omega) (by simp)

end Mq
end Go.Proofs.Ytpfcgenmgddgpaa

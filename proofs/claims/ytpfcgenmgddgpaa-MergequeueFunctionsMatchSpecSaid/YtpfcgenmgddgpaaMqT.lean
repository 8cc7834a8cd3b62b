/-
  The reference: its steps, its run, its state; the law of the functions. Conditions: none.
-/
import Derived.Test.YtpfcgenmgddgpaaMqS
set_option maxRecDepth 100000
namespace Go.Proofs.Ytpfcgenmgddgpaa
open Eng
namespace Mq

theorem posI_mem (c : Int) (l : List Int) : decide (c ∈ l) = decide (posI c l 0 ≥ 0) := by
  rcases posI_or c l 0 with ⟨h1, h2⟩ | ⟨k, h1, h2⟩
  · rw [decide_eq_false h2, h1]; rfl
  · rw [decide_eq_true (List.mem_of_getElem? h2), decide_eq_true (by omega)]

theorem stt_one {e : Ent} : stt e = 1 ↔ e.2.2.1 = true := by
  unfold stt
  cases e.2.2.1 <;> cases e.2.2.2.1 <;> cases e.2.2.2.2.1 <;> simp

theorem sts_set {es : List Ent} {k : Nat} {y : Ent} : sts (es.set k y) = (sts es).set k (stt y) := by simp [sts, List.map_set]

theorem chg_vrd {es : List Ent} {k : Nat} {e : Ent} {kd : Int} (h : es[k]? = some e) : chg (es.set k (vrd kd e)) = chg es ∧ prs (es.set k (vrd kd e)) = prs es := by
  obtain ⟨q1, q2⟩ := set_split h (vrd kd e)
  rw [q2]
  have e1 : chg (vrd kd e :: es.drop (k + 1)) = chg (e :: es.drop (k + 1)) := rfl
  have e2 : prs (vrd kd e :: es.drop (k + 1)) = prs (e :: es.drop (k + 1)) := rfl
  constructor
  · rw [chg_app, e1, ← chg_app, ← q1]
  · rw [prs_app, e2, ← prs_app, ← q1]

set_option maxHeartbeats 1600000 in
theorem rstep_ok {w : Nat} {s : St} {e : Ev} (hT : s.1.length + s.2.1.length + s.2.2.length ≤ 800) (hW : W s.1) {K : List Int → List Int → List Int → List Int → List Int → Int → Prop}
    (h1 : chkE s e ≠ 0 → ∀ a b c d f, K a b c d f (chkE s e)) (h0 : chkE s e = 0 → K (chg (step w s e).1) (prs (step w s e).1) (sts (step w s e).1) (step w s e).2.1 (step w s e).2.2 0) :
    L.ref8_Queue_Step_h25 (chg s.1) (prs s.1) (sts s.1) s.2.1 s.2.2 e.1 e.2.1 e.2.2 w K := by
  refine ⟨?_⟩
  unfold L.ref8_Queue_Step_h25_B
  have done : ∀ {n : Int} {a b c d f : List Int}, chkE s e = n → n ≠ 0 → K a b c d f n := fun hn h => by
    subst hn
    exact h1 h _ _ _ _ _
  by_cases a : e.1 < 1 ∨ e.1 > 4
  · exact cond_t (by simp only [bor, Bool.or_eq_true, decide_eq_true_eq]; exact a) (done (by unfold chkE chk; rw [if_pos a]) (by decide))
  refine cond_f (by simp only [bor, Bool.or_eq_false_iff, decide_eq_false_iff_not]; omega) ?_
  by_cases b : e.2.1 < 1 ∨ e.2.1 > 1000000000 ∨ e.2.2 < 0 ∨ e.2.2 > 3
  · exact cond_t (by simp only [bor, Bool.or_eq_true, decide_eq_true_eq]; omega) (done (by unfold chkE chk; rw [if_neg a, if_pos b]) (by decide))
  refine cond_f (by simp only [bor, Bool.or_eq_false_iff, decide_eq_false_iff_not]; omega) ?_
  by_cases d : e.1 ≠ 1 ∧ e.2.2 ≠ 0
  · exact cond_t (by simp only [band, Bool.and_eq_true, decide_eq_true_eq]; omega) (done (by unfold chkE chk; rw [if_neg a, if_neg b, if_pos d]) (by decide))
  refine cond_f (by simp only [band, Bool.and_eq_false_iff, decide_eq_false_iff_not]; omega) (rix_ok (by omega) ?_)
  by_cases k1 : e.1 = 1
  · refine cond_t (by simpa using k1) ?_
    have seven : (pos e.2.1 s.1 ≥ 0 ∨ posI e.2.1 s.2.1 0 ≥ 0 ∨ posI e.2.1 s.2.2 0 ≥ 0) → K (chg s.1) (prs s.1) (sts s.1) s.2.1 s.2.2 7 := fun g => done (by unfold chkE chk; rw [if_neg a, if_neg b, if_neg d, if_pos ⟨k1, g⟩]) (by decide)
    by_cases g1 : pos e.2.1 s.1 ≥ 0
    · exact cond_t (decide_eq_true g1) ⟨seven (.inl g1)⟩
    refine cond_f (decide_eq_false g1) (Has_ok (by unfold big; omega) ?_)
    rw [posI_mem]
    by_cases g2 : posI e.2.1 s.2.1 0 ≥ 0
    · rw [decide_eq_true g2]
      exact cond_t rfl ⟨seven (.inr (.inl g2))⟩
    rw [decide_eq_false g2]
    refine cond_f rfl (Has_ok (by unfold big; omega) ?_)
    rw [posI_mem]
    by_cases g3 : posI e.2.1 s.2.2 0 ≥ 0
    · rw [decide_eq_true g3]
      exact ⟨seven (.inr (.inr g3))⟩
    rw [decide_eq_false g3]
    refine ⟨cond_f rfl ⟨?_⟩⟩
    unfold L.ref8_Queue_Step_h25_J2_B
    have g4 : ¬ (e.1 = 1 ∧ (pos e.2.1 s.1 ≥ 0 ∨ posI e.2.1 s.2.1 0 ≥ 0 ∨ posI e.2.1 s.2.2 0 ≥ 0)) := fun h => by
      rcases h.2 with h | h | h
      · exact g1 h
      · exact g2 h
      · exact g3 h
    rw [len_chg]
    by_cases g5 : s.1.length ≥ 10
    · exact cond_t (decide_eq_true (by omega)) (done (by unfold chkE chk; rw [if_neg a, if_neg b, if_neg d, if_neg g4, if_pos ⟨k1, g5⟩]) (by decide))
    refine cond_f (by simp; omega) (ins_ok (by omega) ?_)
    have hc : chkE s e = 0 := by
      unfold chkE chk
      rw [if_neg a, if_neg b, if_neg d, if_neg g4, if_neg (fun h => g5 h.2), if_neg (fun h => h.1 k1), if_neg (by omega)]
    have h2 := h0 hc
    unfold step at h2
    rw [if_pos k1] at h2
    rw [insR_add hW]
    exact rset_ok (by rw [addE_len]; omega) (add_w hW).one h2
  refine cond_f (by simpa using k1) ?_
  have g4 : ¬ (e.1 = 1 ∧ (pos e.2.1 s.1 ≥ 0 ∨ posI e.2.1 s.2.1 0 ≥ 0 ∨ posI e.2.1 s.2.2 0 ≥ 0)) := fun h => k1 h.1
  have g5 : ¬ (e.1 = 1 ∧ s.1.length ≥ 10) := fun h => k1 h.1
  by_cases g6 : pos e.2.1 s.1 < 0
  · exact cond_t (decide_eq_true g6) (done (by unfold chkE chk; rw [if_neg a, if_neg b, if_neg d, if_neg g4, if_neg g5, if_pos ⟨k1, g6⟩]) (by decide))
  refine cond_f (decide_eq_false g6) ?_
  obtain ⟨k, y, p1, p2, p3⟩ := pos_nat (Int.not_lt.1 g6)
  have hk := (List.getElem?_eq_some_iff.1 p2).1
  have hyk : s.1[k] = y := (List.getElem?_eq_some_iff.1 p2).2
  by_cases k2 : e.1 = 2
  · have hc : chkE s e = 0 := by
      unfold chkE chk
      rw [if_neg a, if_neg b, if_neg d, if_neg g4, if_neg g5, if_neg (fun h => g6 h.2), if_neg (by omega)]
    have h2 := h0 hc
    unfold step at h2
    rw [if_neg k1, if_pos k2, p1, Int.toNat_natCast] at h2
    refine cond_t (by simpa using k2) (cut_ok (by omega) ?_)
    rw [p1, cutR_t, ← cut_eq k s.1 hk]
    refine rset_ok ?_ (cut_w hW hk).one h2
    rw [disc_len, List.length_append, List.length_take, List.length_drop]
    omega
  refine cond_f (by simpa using k2) ?_
  rw [p1, Int.toNat_natCast, sts_at hk, hyk]
  refine ⟨⟨by omega, by rw [len_sts]; omega⟩, ?_⟩
  have hgd : (s.1.getD (pos e.2.1 s.1).toNat e0) = y := by rw [p1, Int.toNat_natCast]; exact getD_of _ p2
  by_cases g7 : y.2.2.1 = true
  · have hc : chkE s e = 0 := by
      unfold chkE chk
      rw [if_neg a, if_neg b, if_neg d, if_neg g4, if_neg g5, if_neg (fun h => g6 h.2), if_neg (by rw [hgd, g7]; simp)]
    have h2 := h0 hc
    unfold step at h2
    rw [if_neg k1, if_neg k2, p1, Int.toNat_natCast, getD_of _ p2] at h2
    have hkd : e.1 = 3 ∨ e.1 = 4 := by omega
    have hw' := vrd_w hW p2 g7 hkd
    obtain ⟨c1, c2⟩ := chg_vrd (kd := e.1) p2
    have hb := rset_ok (w := w) (ld := s.2.1) (rj := s.2.2) (K := fun a b c d f => K c d f a b 0) (by simp; omega) hw'.one h2
    rw [c1, c2, sts_set] at hb
    have hin : ∀ l : List Int, l.length = s.1.length → inB (k : Int) l.length := fun l hl => ⟨by omega, by omega⟩
    refine cond_f (by rw [stt_one.2 g7]; rfl) (cut_ok (by omega) ?_)
    rw [cutR_no]
    refine ⟨hin _ (len_sts _), ?_⟩
    rcases hkd with k3 | k4
    · have hst : stt (vrd e.1 y) = 2 := by rw [k3]; rfl
      rw [hst] at hb
      exact cond_f (by rw [k3]; rfl) ⟨hb⟩
    · have hst : stt (vrd e.1 y) = 3 := by rw [k4]; rfl
      rw [hst] at hb
      refine cond_t (by rw [k4]; rfl) ⟨hin _ (by simp [len_sts]), ⟨?_⟩⟩
      rw [List.set_set]
      exact hb
  · have hf : y.2.2.1 = false := by simpa using g7
    refine cond_t ?_ (done (by unfold chkE chk; rw [if_neg a, if_neg b, if_neg d, if_neg g4, if_neg g5, if_neg (fun h => g6 h.2), if_pos ⟨by omega, by rw [hgd]; exact hf⟩]) (by decide))
    rw [bne_iff_ne]
    exact fun h => g7 (stt_one.1 h)

theorem rrun_loop {w : Nat} {evs : List Ev} (hw : 1 ≤ w) (hl : evs.length ≤ 40) {Kx : List Int → List Int → List Int → List Int → List Int → Prop} {Kr : Int → Int → Prop} {R : (Int × Int) × St}
    (hx : R.1 = (0, 0) → Kx (chg R.2.1) (prs R.2.1) (sts R.2.1) R.2.2.1 R.2.2.2) (hr : R.1.1 ≠ 0 → R.2 = ([], ([], [])) → Kr R.1.1 R.1.2) : ∀ (fu i : Nat) (s : St) (p : List Ev), Inv i s → Pst p s → Gd w s.1 → i ≤ evs.length → evs.length - i < fu →
    runL w (evs.drop i) i s = R → L.ref8_RunQueue_h26_L1_R w evs fu i (chg s.1) (prs s.1) (sts s.1) s.2.1 s.2.2 Kx Kr
  | 0, i, s, p, _, _, _, _, h, _ => by omega
  | fu + 1, i, s, p, hI, hP, hG, hi, h, he => by
    show L.ref8_RunQueue_h26_L1_b w evs i (chg s.1) (prs s.1) (sts s.1) s.2.1 s.2.2 _ Kx Kr
    unfold L.ref8_RunQueue_h26_L1_b
    have h1 := hI.1
    rcases Nat.lt_or_ge i evs.length with g | g
    · refine cond_t (by simp; omega) ⟨⟨by omega, by omega⟩, ?_⟩
      rw [Int.toNat_natCast, i64_succ (i := i) (by omega), getD_get _ _ _ g]
      rw [List.drop_eq_getElem_cons g] at he
      simp only [runL] at he
      have key := rstep_ok (w := w) (s := s) (e := evs[i]) (by omega) hG.wf (K := fun r r1 r2 r3 r4 r5 => L.ref8_RunQueue_h26_J2 i r5 r r1 r2 r3 r4 (fun q5 q6 q7 q8 q9 _ _ _ _ _ => L.ref8_RunQueue_h26_L1_R w evs fu ((i + 1 : Nat) : Int) q5 q6 q7 q8 q9 Kx Kr) Kr)
        (fun hc a b c d f => by
          rw [if_neg hc] at he
          refine ⟨cond_t (by simpa using hc) ⟨?_⟩⟩
          subst he
          exact hr hc rfl)
        (fun hc => by
          rw [if_pos hc] at he
          refine ⟨cond_f rfl ?_⟩
          exact rrun_loop hw hl hx hr fu (i + 1) (step w s evs[i]) (p ++ [evs[i]]) (step_inv (by omega) hI (chk_pos hc)) (pst_step hP hc) (step_gd hw hG hP hc) g (by omega) he)
      exact ⟨key, key⟩
    · obtain rfl : i = evs.length := by omega
      rw [List.drop_length] at he
      simp only [runL] at he
      subst he
      exact cond_f (by simp) (hx rfl)

theorem rrun_ok {w : Int} {evs : List Ev} {K : List Int → List Int → List Int → List Int → List Int → Int → Int → Prop}
    (hK : K (chg (runQ w evs).2.1) (prs (runQ w evs).2.1) (sts (runQ w evs).2.1) (runQ w evs).2.2.1 (runQ w evs).2.2.2 (runQ w evs).1.1 (runQ w evs).1.2) : L.ref8_RunQueue_h26 w evs K := by
  refine ⟨?_⟩
  unfold L.ref8_RunQueue_h26_B
  unfold runQ at hK
  by_cases a : w < 1 ∨ w > 4
  · rw [if_pos a] at hK
    exact cond_t (by simp only [bor, Bool.or_eq_true, decide_eq_true_eq]; exact a) ⟨hK⟩
  rw [if_neg a] at hK
  refine cond_f (by simp only [bor, Bool.or_eq_false_iff, decide_eq_false_iff_not]; omega) ?_
  by_cases b : evs.length > 40
  · rw [if_pos b] at hK
    exact cond_t (by simp; omega) ⟨hK⟩
  rw [if_neg b] at hK
  obtain ⟨w, rfl⟩ := Int.eq_ofNat_of_zero_le (show 0 ≤ w by omega)
  rw [Int.toNat_natCast] at hK
  refine cond_f (by simp; omega) ⟨⟨evs.length + 1, ?_⟩⟩
  exact rrun_loop (R := runL w evs 0 ([], ([], []))) (by omega) (by omega) (fun h1 => ⟨by rw [h1] at hK; exact hK⟩) (fun _ h1 => by rw [h1] at hK; exact hK) (evs.length + 1) 0 ([], ([], [])) [] (inv_nil 0) pst_nil (gd_nil _) (by omega) (by omega) rfl

theorem flg_stt {e : Ent} : flg e = true ↔ stt e ≠ 0 := by
  unfold stt flg
  cases e.2.2.1 <;> cases e.2.2.2.1 <;> cases e.2.2.2.2.1 <;> simp

theorem ent_eq {e : Ent} (h : One e) : (e.1, (e.2.1, (stt e == 1, (stt e == 2, (stt e == 3, e.2.2.2.2.2))))) = e := by
  obtain ⟨c, p, t, q, f, l⟩ := e
  obtain ⟨h1, h2⟩ := h
  simp only at h1 h2
  unfold stt
  revert h1 h2
  cases t <;> cases q <;> cases f <;> simp

theorem state_loop {es : List Ent} (hb : es.length ≤ 1000) (hW : W es) {K : List Ent → Prop} (hK : K es) : ∀ (fu i : Nat), i ≤ es.length → es.length - i < fu → L.ref8_Queue_State_h27_L1_R (chg es) (prs es) (sts es) fu i (es.take i) K
  | 0, i, _, h => by omega
  | fu + 1, i, hi, h => by
    show L.ref8_Queue_State_h27_L1_b (chg es) (prs es) (sts es) i (es.take i) _ K
    unfold L.ref8_Queue_State_h27_L1_b
    rw [len_chg, len_prs, len_sts]
    rcases Nat.lt_or_ge i es.length with g | g
    · have hin : inB (i : Int) es.length := ⟨by omega, by omega⟩
      refine cond_t (by simp; omega) ⟨hin, hin, hin, hin, hin, hin, ?_⟩
      rw [Int.toNat_natCast, i64_succ (i := i) (by omega), chg_at g, prs_at g, sts_at g]
      have ho := hW.one es[i] (List.getElem_mem g)
      have ha := aft_get es [] i es[i] hW.aft (List.getElem?_eq_getElem g)
      have hq := ent_eq ho
      have nx : es.take i ++ [es[i]] = es.take (i + 1) := by rw [List.take_add_one, List.getElem?_eq_getElem g]; rfl
      have next := state_loop hb hW hK fu (i + 1) g (by omega)
      rw [← nx] at next
      by_cases h0 : stt es[i] = 0
      · rw [if_neg (fun h => flg_stt.1 h h0)] at ha
        rw [ha] at hq
        refine cond_f (by simpa using h0) ?_
        rw [hq]
        exact ⟨by unfold fits; simp; omega, next⟩
      · rw [if_pos (flg_stt.2 h0)] at ha
        have ht : (chg es).take i = chg (es.take i) := by simp [chg, List.map_take]
        rw [ha, ← ht] at hq
        refine cond_t (by simpa using h0) ?_
        rw [hq]
        exact ⟨⟨by omega, by omega⟩, by unfold fits; simp [len_chg]; omega, by unfold fits; simp; omega, next⟩
    · obtain rfl : i = es.length := by omega
      rw [List.take_length]
      exact cond_f (by simp) hK

theorem state_ok {es : List Ent} {ld rj : List Int} (hb : es.length ≤ 1000) (hW : W es) {K : List Int → List Int → List Ent → Prop} (hK : K ld rj es) : L.ref8_Queue_State_h27 (chg es) (prs es) (sts es) ld rj K :=
  ⟨⟨⟨es.length + 1, state_loop hb hW hK (es.length + 1) 0 (by omega) (by omega)⟩⟩⟩

theorem eqq_loop {es : List Ent} (hb : es.length ≤ 1000) (hB : Bd es) {Kx : Prop} {Kr : Bool → Prop} (hK : Kx) : ∀ (fu i : Nat), i ≤ es.length → es.length - i < fu → L.ref8_EqualQueues_L1_R es es fu i Kx Kr
  | 0, i, _, h => by omega
  | fu + 1, i, hi, h => by
    show L.ref8_EqualQueues_L1_b es es i _ Kx Kr
    unfold L.ref8_EqualQueues_L1_b
    rcases Nat.lt_or_ge i es.length with g | g
    · have hin : inB (i : Int) es.length := ⟨by omega, by omega⟩
      refine cond_t (by simp; omega) ⟨hin, hin, ?_⟩
      rw [Int.toNat_natCast, i64_succ (i := i) (by omega), getD_get _ _ _ g]
      have hl := hB es[i] (List.getElem_mem g)
      refine cond_f (by simp) (Equal_ok (by unfold big; omega) ⟨cond_f (by simp) ?_⟩)
      exact eqq_loop hb hB hK fu (i + 1) g (by omega)
    · exact cond_f (by simp; omega) hK

theorem eqq_ok {es : List Ent} {ld rj : List Int} (hb : es.length ≤ 1000) (hl : ld.length ≤ 1000) (hr : rj.length ≤ 1000) (hB : Bd es) {K : Bool → Prop} (hK : K true) : L.ref8_EqualQueues es ld rj es ld rj K := by
  refine ⟨Equal_ok (by unfold big; omega) ?_⟩
  rw [decide_eq_true rfl]
  refine cond_f rfl (Equal_ok (by unfold big; omega) ?_)
  rw [decide_eq_true rfl]
  exact ⟨cond_f (by simp) ⟨⟨⟨es.length + 1, eqq_loop hb hB hK (es.length + 1) 0 (by omega) (by omega)⟩⟩⟩⟩

end Mq
end Go.Proofs.Ytpfcgenmgddgpaa

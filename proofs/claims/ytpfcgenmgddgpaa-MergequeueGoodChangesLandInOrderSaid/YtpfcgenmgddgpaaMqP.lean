/-
  Good changes land in their order. Conditions: none.
-/
import Derived.Test.YtpfcgenmgddgpaaMqN
namespace Go.Proofs.Ytpfcgenmgddgpaa
open Eng
namespace Mq

/-- The changes are in their range. -/
def Rng (s : St) : Prop := ∀ x, 1 ≤ cntS s x → 1 ≤ x ∧ x ≤ 1000000000

theorem chk_rng {s : St} {e : Ev} (h : chkE s e = 0) : 1 ≤ e.2.1 ∧ e.2.1 ≤ 1000000000 := by
  unfold chkE chk at h
  by_cases a : e.1 < 1 ∨ e.1 > 4
  · rw [if_pos a] at h; exact absurd h (by decide)
  rw [if_neg a] at h
  by_cases b : e.2.1 < 1 ∨ e.2.1 > 1000000000 ∨ e.2.2 < 0 ∨ e.2.2 > 3
  · rw [if_pos b] at h; exact absurd h (by decide)
  omega

theorem step_rng {w : Nat} {s : St} {e : Ev} (h : Rng s) (hc : chkE s e = 0) : Rng (step w s e) := by
  intro x hx
  by_cases k1 : e.1 = 1
  · have h1 := (step_add w s e k1).1 x
    by_cases he : e.2.1 = x
    · subst he; exact chk_rng hc
    · rw [if_neg he] at h1
      exact h x (by omega)
  · have hp := chk_pos hc k1
    by_cases k2 : e.1 = 2
    · have h1 := (step_rem w s e k2 hp).1 x
      exact h x (by omega)
    · have h1 := (step_ver w s e k1 k2 hp).1 x
      exact h x (by omega)

theorem rng_run {w : Nat} : ∀ (r : List Ev) (i : Nat) (s : St), Rng s → (runL w r i s).1.1 = 0 → Rng (runL w r i s).2
  | [], i, s, h, _ => h
  | e :: r, i, s, h, hc => by
    simp only [runL] at hc ⊢
    split at hc
    · next h1 =>
      rw [if_pos h1]
      exact rng_run r (i + 1) _ (step_rng h h1) hc
    · next h1 => exact absurd hc h1

theorem rng_ok {w : Int} {es : List Ev} (h : (runQ w es).1.1 = 0) : Rng (runQ w es).2 := by
  obtain ⟨_, _, _, h1⟩ := runQ_ok h
  rw [h1] at h ⊢
  exact rng_run es 0 _ (fun x hx => by simp [cntS, chg] at hx) h

/-- No entry has failed. -/
def NoF (es : List Ent) : Prop := ∀ e, e ∈ es → e.2.2.2.2.1 = false

theorem stl_nof : ∀ (n : Nat) (es : List Ent) (ld rj : List Int), NoF es → (stl n es ld rj).2.1 ++ chg (stl n es ld rj).1 = ld ++ chg es
  | 0, es, ld, rj, _ => rfl
  | n + 1, [], ld, rj, _ => rfl
  | n + 1, e :: r, ld, rj, h => by
    simp only [stl]
    have h1 : e.2.2.2.2.1 = false := h e (by simp)
    have h2 : NoF (r.map (dea e.1)) := fun x hx => by
      obtain ⟨y, hy, rfl⟩ := List.mem_map.1 hx
      exact h y (List.mem_cons_of_mem _ hy)
    cases (e.2.2.2.1 || e.2.2.2.2.1) with
    | false => rfl
    | true =>
      rw [h1]
      simp only [cond_true, cond_false]
      rw [stl_nof n _ _ rj h2, chg_dea, List.append_assoc]
      rfl

theorem next_ok {w : Int} {es : List Ev} {e : Ent} {r : List Ent} (h : (runQ w es).1.1 = 0) (hl : es.length < 40) (hs : (runQ w es).2.1 = e :: r) (hn : NoF (e :: r)) :
    (runQ w (es ++ [(3, (e.1, 0))])).1.1 = 0 ∧ (runQ w (es ++ [(3, (e.1, 0))])).2.2.1 ++ chg (runQ w (es ++ [(3, (e.1, 0))])).2.1 = (runQ w es).2.2.1 ++ chg (runQ w es).2.1 := by
  obtain ⟨hw1, hw2, _, h1⟩ := runQ_ok h
  have hG := gd_ok h
  have hR := rng_ok h
  have hP := pst_ok h
  have ht : e.2.2.1 = true := hG.head e (by rw [hs]; rfl)
  have hpos : pos e.1 (runQ w es).2.1 = 0 := by
    rw [hs]
    show (if e.1 = e.1 then _ else _) = _
    rw [if_pos rfl]
    rfl
  have hr := hR e.1 (by simp only [cntS, hs, chg, List.map_cons, List.count_cons_self]; omega)
  have hc : chkE (runQ w es).2 (3, (e.1, 0)) = 0 := by
    unfold chkE chk
    have hp0 : (((runQ w es).2.1.getD (0 : Int).toNat e0).2.2.1) = true := by rw [hs]; exact ht
    simp only [hpos]
    rw [if_neg (by omega), if_neg (by omega), if_neg (by omega), if_neg (by omega), if_neg (by omega), if_neg (by omega), if_neg (by rw [hp0]; simp)]
  have h2 : runQ w (es ++ [(3, (e.1, 0))]) = ((0, 0), step w.toNat (runQ w es).2 (3, (e.1, 0))) := by
    have h3 : runQ w (es ++ [(3, (e.1, 0))]) = runL w.toNat (es ++ [(3, (e.1, 0))]) 0 ([], ([], [])) := by
      unfold runQ
      rw [if_neg (by omega), if_neg (by simp; omega)]
    rw [h3, run_app, ← h1, if_pos h]
    simp only [runL]
    rw [if_pos hc]
  rw [h2]
  refine ⟨rfl, ?_⟩
  unfold step
  rw [if_neg (by simp), if_neg (by simp)]
  have hpos2 : pos e.1 (e :: r) = 0 := by rw [← hs]; exact hpos
  simp only [hs, hpos2]
  show (set2 w.toNat (vrd 3 e :: r) (runQ w es).2.2.1 (runQ w es).2.2.2).2.1 ++ chg (set2 w.toNat (vrd 3 e :: r) (runQ w es).2.2.1 (runQ w es).2.2.2).1 = _
  have h4 := stl_nof (vrd 3 e :: r).length (vrd 3 e :: r) (runQ w es).2.2.1 (runQ w es).2.2.2 (fun x hx => by
    rcases List.mem_cons.1 hx with rfl | hx
    · rfl
    · exact hn x (List.mem_cons_of_mem _ hx))
  simp only [set2, chg_srt]
  rw [h4]
  rfl

theorem good1 {es : List Ent} {base : List Int} (hb : es.length + base.length ≤ 1000) {K : List Int → Prop} (hK : K (base ++ chg es)) : ∀ (fu i : Nat), i ≤ es.length → es.length - i < fu →
    L.law8_MergequeueGoodChangesLandInOrder_L1_R es fu i (base ++ chg (es.take i)) K
  | 0, i, _, h => by omega
  | fu + 1, i, hi, h => by
    show L.law8_MergequeueGoodChangesLandInOrder_L1_b es i (base ++ chg (es.take i)) _ K
    unfold L.law8_MergequeueGoodChangesLandInOrder_L1_b
    rcases Nat.lt_or_ge i es.length with g | g
    · refine cond_t (by simp; omega) ⟨⟨by omega, by omega⟩, by unfold fits; simp [chg]; omega, ?_⟩
      rw [Int.toNat_natCast, i64_succ (i := i) (by omega), getD_get _ _ _ g]
      have e : base ++ chg (es.take i) ++ [es[i].1] = base ++ chg (es.take (i + 1)) := by
        rw [List.take_add_one, List.getElem?_eq_getElem g, chg_app, List.append_assoc]
        rfl
      rw [e]
      exact good1 hb hK fu (i + 1) g (by omega)
    · obtain rfl : i = es.length := by omega
      rw [List.take_length]
      exact cond_f (by simp) hK

theorem good2 {es : List Ent} (hb : es.length ≤ 1000) {Kx : Prop} {Kr : Bool → Prop} (hr : Kr true) (hx : NoF es → Kx) : ∀ (fu i : Nat), i ≤ es.length → es.length - i < fu → (∀ e, e ∈ es.take i → e.2.2.2.2.1 = false) →
    L.law8_MergequeueGoodChangesLandInOrder_L2_R es fu i Kx Kr
  | 0, i, _, h, _ => by omega
  | fu + 1, i, hi, h, hn => by
    show L.law8_MergequeueGoodChangesLandInOrder_L2_b es i _ Kx Kr
    unfold L.law8_MergequeueGoodChangesLandInOrder_L2_b
    rcases Nat.lt_or_ge i es.length with g | g
    · refine cond_t (by simp; omega) ⟨⟨by omega, by omega⟩, ?_⟩
      rw [Int.toNat_natCast, i64_succ (i := i) (by omega), getD_get _ _ _ g]
      cases hf : es[i].2.2.2.2.1 with
      | true => exact cond_t rfl hr
      | false =>
        refine cond_f rfl (good2 hb hr hx fu (i + 1) g (by omega) fun e he => ?_)
        rw [List.take_add_one, List.getElem?_eq_getElem g] at he
        rcases List.mem_append.1 he with he | he
        · exact hn e he
        · simp only [Option.toList_some, List.mem_singleton] at he
          rw [he]; exact hf
    · obtain rfl : i = es.length := by omega
      rw [List.take_length] at hn
      exact cond_f (by simp) (hx hn)

theorem good3 {w : Int} {want : List Int} {Kx : Prop} {Kr : Bool → Prop} (hx : Kx) (hr : Kr true) : ∀ (fu i f : Nat) (more : List Ev), i ≤ 10 → 10 - i < fu → more.length ≤ 40 → (runQ w more).1.1 = 0 → (runQ w more).2.2.1 ++ chg (runQ w more).2.1 = want →
    L.law8_MergequeueGoodChangesLandInOrder_L3_R w want fu i f more Kx Kr
  | 0, i, f, more, _, h, _, _, _ => by omega
  | fu + 1, i, f, more, hi, h, hl, h0, hw => by
    show L.law8_MergequeueGoodChangesLandInOrder_L3_b w want i f more _ Kx Kr
    unfold L.law8_MergequeueGoodChangesLandInOrder_L3_b
    by_cases hc : i < 10 ∧ more.length < 40
    · refine cond_t (by simp only [band, Bool.and_eq_true, decide_eq_true_eq]; omega) (run_ok ?_)
      rw [h0]
      have hI := (runQ_inv w more).1
      have hG := gd_ok h0
      cases hs : (runQ w more).2.1 with
      | nil =>
        refine ⟨fun _ h => by simp at h, cond_f (by simp) ⟨⟨1, good2 (es := []) (by simp) hr (fun _ => ?_) 1 0 (by simp) (by simp) (fun e he => by simp at he)⟩⟩⟩
        refine cond_t (by simp) (Equal_ok (by unfold big; omega) ?_)
        rw [hs] at hw
        have : (runQ w more).2.2.1 = want := by simpa [chg] using hw
        rw [this]
        simpa using hr
      | cons e r =>
        have hlen : (runQ w more).2.1.length = r.length + 1 := by rw [hs]; rfl
        have hh : e.2.2.2.2.1 = false := ((hG.wf.one e (by rw [hs]; simp)).1 (hG.head e (by rw [hs]; rfl))).2
        have hin : inB 0 (e :: r).length := ⟨by omega, by simp⟩
        refine ⟨fun _ _ => hin, cond_f ?_ ⟨⟨(e :: r).length + 1, good2 (es := e :: r) (by simp; omega) hr (fun hn => ?_) _ 0 (by omega) (by omega) (fun e he => by simp at he)⟩⟩⟩
        · show (bif ((0 : Int) != 0) then true else (bif (decide (((e :: r).length : Int) > 0)) then e.2.2.2.2.1 else false)) = false
          rw [hh]
          cases (decide (((e :: r).length : Int) > 0)) <;> rfl
        · refine cond_f (by rw [beq_eq_false_iff_ne]; simp; omega) ⟨hin, by unfold fits; simp; omega, ?_⟩
          rw [i64_succ (i := i) (by omega)]
          obtain ⟨n1, n2⟩ := next_ok h0 hc.2 hs hn
          exact good3 hx hr fu (i + 1) more.length (more ++ [(3, (e.1, 0))]) (by omega) (by omega) (by simp; omega) n1 (n2.trans hw)
    · exact cond_f (by simp only [band, Bool.and_eq_false_iff, decide_eq_false_iff_not]; omega) hx

theorem good_true (w : Int) (es : List Ev) (K : Bool → Prop) (hK : K true) : L.law8_MergequeueGoodChangesLandInOrder w es K := by
  refine ⟨run_ok (example_ok (cond_f rfl ?_))⟩
  by_cases h : (runQ w es).1.1 = 0
  · obtain ⟨_, _, h3, _⟩ := runQ_ok h
    have hI := (runQ_inv w es).1
    refine cond_f (by rw [h]; rfl) ⟨by unfold fits; simp; omega, by unfold fits; simp; omega, ⟨⟨(runQ w es).2.1.length + 1, ?_⟩⟩⟩
    have g1 := good1 (es := (runQ w es).2.1) (base := (runQ w es).2.2.1) (by omega) (K := fun want => L.law8_MergequeueGoodChangesLandInOrder_L3 w want 0 (0 : Nat) (([] : List (Int × (Int × Int))) ++ es) (K true) (fun r6 => K r6))
      ⟨⟨11, good3 (Kr := K) hK hK 11 0 0 es (by omega) (by omega) h3 h rfl⟩⟩ ((runQ w es).2.1.length + 1) 0 (by omega) (by omega)
    simp only [List.take_zero, chg, List.map_nil, List.append_nil] at g1
    exact g1
  · exact cond_t (by simpa using h) hK

end Mq

theorem MergequeueGoodChangesLandInOrder_true (xs : ArgDen [(false, (.int .i64)), (false, EvT)]) (_ : WfAll _ xs) (K : Bool → Prop) (hK : K true) : L.law8_MergequeueGoodChangesLandInOrder xs.1 xs.2.1 K :=
  Mq.good_true xs.1 xs.2.1 K hK

end Go.Proofs.Ytpfcgenmgddgpaa

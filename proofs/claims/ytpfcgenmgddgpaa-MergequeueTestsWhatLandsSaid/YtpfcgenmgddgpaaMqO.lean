/-
  Tests run on top of what lands: the law. Conditions: none.
-/
import Derived.Test.YtpfcgenmgddgpaaMqN
namespace Go.Proofs.Ytpfcgenmgddgpaa
open Eng
namespace Mq

theorem lands_j2 {i : Nat} {es : List Ent} {e : Ent} (hb : es.length ≤ 1000) (he : es[i]? = some e) (hf : (prs es).Pairwise fun a b => b ≤ a) {Kn : List Int → Prop} {Kr : Bool → Prop} (hK : Kn (chg (es.take (i + 1)))) :
    L.law8_MergequeueTestsWhatLands_J2 i es (chg (es.take i)) e.1 e.2.1 Kn Kr := by
  have hi := (List.getElem?_eq_some_iff.1 he).1
  have h2 : es[i] = e := (List.getElem?_eq_some_iff.1 he).2
  have hc : chg (es.take i) ++ [e.1] = chg (es.take (i + 1)) := by
    rw [List.take_add_one, he, chg_app]
    rfl
  have hfit : fits ((chg (es.take i)).length + ([e.1] : List Int).length) := by unfold fits; simp [chg]; omega
  refine ⟨?_⟩
  unfold L.law8_MergequeueTestsWhatLands_J2_B
  rw [hc]
  by_cases h0 : i = 0
  · subst h0
    exact ⟨fun h => by simp at h, cond_f (by simp) ⟨hfit, hK⟩⟩
  · have hm : i64 ((i : Int) - 1) = ((i - 1 : Nat) : Int) := by rw [i64_id (by omega) (by omega)]; omega
    rw [hm, Int.toNat_natCast, getD_get _ _ _ (show i - 1 < es.length by omega)]
    refine ⟨fun _ => ⟨by omega, by omega⟩, cond_f ?_ ⟨hfit, hK⟩⟩
    have hle : e.2.1 ≤ es[i - 1].2.1 := by
      have h3 := List.pairwise_iff_getElem.1 hf (i - 1) i (by simp [prs]; omega) (by simp [prs]; omega) (by omega)
      simp only [prs, List.getElem_map, h2] at h3
      exact h3
    simp only [band, Bool.and_eq_false_iff, decide_eq_false_iff_not]
    right; omega

theorem lands_j3 {w : Int} {i : Nat} {es : List Ent} {e : Ent} {st : Int} (hb : es.length ≤ 1000) (he : es[i]? = some e) (hG : Gd w.toNat es) (hst : st = if flg e = true then 1 else 0) {Kn : List Int → Prop} {Kr : Bool → Prop}
    (hK : Kn (chg (es.take (i + 1)))) : L.law8_MergequeueTestsWhatLands_J3 w i st es (chg (es.take i)) e.1 e.2.1 e.2.2.1 e.2.2.2.2.2 Kn Kr := by
  have ha := aft_get es [] i e hG.wf.aft he
  rw [List.nil_append] at ha
  have j2 := lands_j2 (Kr := Kr) hb he hG.wf.fall hK
  have hfirst := hG.first i e he
  have hhead : i = 0 → e.2.2.1 = true := fun h => by subst h; exact hG.head e he
  refine ⟨?_⟩
  unfold L.law8_MergequeueTestsWhatLands_J3_B
  rw [ha]
  have h0 : (bif ((i : Int) == 0) then (!e.2.2.1) else false) = false := by
    by_cases hi : i = 0
    · rw [hhead hi]; cases ((i : Int) == 0) <;> rfl
    · have : ((i : Int) == 0) = false := by rw [beq_eq_false_iff_ne]; omega
      rw [this]; rfl
  rw [h0]
  cases hf : flg e with
  | true =>
    rw [hf, if_pos rfl] at hst
    subst hst
    rw [if_pos rfl]
    refine cond_f (by simp) (cond_f (by simp) (cond_t (by decide) (Equal_ok (by unfold big; simp [chg]; omega) ⟨?_⟩)))
    exact cond_f (by simp) j2
  | false =>
    rw [hf, if_neg (by decide)] at hst
    subst hst
    rw [if_neg (by decide)]
    have hiw : ¬ ((i : Int) < w) := fun h => by
      have := hfirst (by omega)
      rw [hf] at this
      cases this
    refine cond_f (by simp; omega) (cond_f (by simp) (cond_f (by decide) ⟨?_⟩))
    exact cond_f rfl j2

theorem lands_loop {w : Int} {es : List Ent} (hb : es.length ≤ 1000) (hG : Gd w.toNat es) {Kx : Prop} {Kr : Bool → Prop} (hK : Kx) : ∀ (fu i : Nat), i ≤ es.length → es.length - i < fu → L.law8_MergequeueTestsWhatLands_L1_R w es 0 fu i (chg (es.take i)) Kx Kr
  | 0, i, _, h => by omega
  | fu + 1, i, hi, h => by
    show L.law8_MergequeueTestsWhatLands_L1_b w es 0 i (chg (es.take i)) _ Kx Kr
    unfold L.law8_MergequeueTestsWhatLands_L1_b
    rcases Nat.lt_or_ge i es.length with g | g
    · refine cond_t (by simp; omega) ⟨⟨by omega, by omega⟩, ?_⟩
      rw [Int.toNat_natCast, i64_succ (i := i) (by omega), getD_get _ _ _ g]
      have he : es[i]? = some es[i] := List.getElem?_eq_getElem g
      have ho := hG.wf.one es[i] (List.getElem_mem g)
      have j3 : ∀ st : Int, (st = if flg es[i] = true then 1 else 0) → L.law8_MergequeueTestsWhatLands_J3 w i st es (chg (es.take i)) es[i].1 es[i].2.1 es[i].2.2.1 es[i].2.2.2.2.2 (fun b => L.law8_MergequeueTestsWhatLands_L1_R w es 0 fu ((i + 1 : Nat) : Int) b Kx Kr) Kr := fun st hst => lands_j3 hb he hG hst (lands_loop hb hG hK fu (i + 1) g (by omega))
      have w1 : i64 ((0 : Int) + 1) = 1 := by rw [i64_id (by omega) (by omega)]; rfl
      rw [w1]
      generalize es[i] = e at *
      obtain ⟨o1, o2⟩ := ho
      cases ht : e.2.2.1 with
      | true =>
        obtain ⟨o3, o4⟩ := o1 ht
        rw [o3, o4]
        rw [ht] at j3
        refine cond_t rfl ⟨cond_f rfl ⟨cond_f rfl ?_⟩⟩
        exact j3 1 (by simp [flg, ht])
      | false =>
        rw [ht] at j3
        refine cond_f rfl ⟨?_⟩
        cases hp : e.2.2.2.1 with
        | true =>
          rw [o2 hp]
          refine cond_t rfl ⟨cond_f rfl ?_⟩
          rw [w1]
          exact j3 1 (by simp [flg, hp])
        | false =>
          refine cond_f rfl ⟨?_⟩
          cases hf : e.2.2.2.2.1 with
          | true =>
            refine cond_t rfl ?_
            rw [w1]
            exact j3 1 (by simp [flg, hf])
          | false => exact cond_f rfl (j3 0 (by simp [flg, ht, hp, hf]))
    · exact cond_f (by simp; omega) hK

theorem lands_true (w : Int) (es : List Ev) (K : Bool → Prop) (hK : K true) : L.law8_MergequeueTestsWhatLands w es K := by
  refine ⟨run_ok (example_ok (cond_f rfl ?_))⟩
  by_cases h : (runQ w es).1.1 = 0
  · have hI := (runQ_inv w es).1
    rw [h]
    exact ⟨⟨_, lands_loop (by omega) (gd_ok h) hK ((runQ w es).2.1.length + 1) 0 (by omega) (by omega)⟩⟩
  · refine ⟨⟨1, cond_f ?_ hK⟩⟩
    rw [beq_eq_false_iff_ne.2 h]; rfl

end Mq

theorem MergequeueTestsWhatLands_true (xs : ArgDen [(false, (.int .i64)), (false, EvT)]) (_ : WfAll _ xs) (K : Bool → Prop) (hK : K true) : L.law8_MergequeueTestsWhatLands xs.1 xs.2.1 K :=
  Mq.lands_true xs.1 xs.2.1 K hK

end Go.Proofs.Ytpfcgenmgddgpaa

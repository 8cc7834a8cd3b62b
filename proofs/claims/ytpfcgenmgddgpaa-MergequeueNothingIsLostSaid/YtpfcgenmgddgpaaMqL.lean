/-
  Nothing is lost. Conditions: none.
-/
import Derived.Test.YtpfcgenmgddgpaaMqH
namespace Go.Proofs.Ytpfcgenmgddgpaa
open Eng
namespace Mq

theorem lost6 {es : List Ent} {base : List Int} (hb : es.length + base.length ≤ 1000) {K : List Int → Prop} (hK : K (base ++ chg es)) : ∀ (fu i : Nat), i ≤ es.length → es.length - i < fu →
    L.law8_MergequeueNothingIsLost_L5_R es fu i (base ++ chg (es.take i)) K
  | 0, i, _, h => by omega
  | fu + 1, i, hi, h => by
    show L.law8_MergequeueNothingIsLost_L5_b es i (base ++ chg (es.take i)) _ K
    unfold L.law8_MergequeueNothingIsLost_L5_b
    rcases Nat.lt_or_ge i es.length with g | g
    · refine cond_t (by simp; omega) ⟨⟨by omega, by omega⟩, by unfold fits; simp [chg]; omega, ?_⟩
      rw [Int.toNat_natCast, i64_succ (i := i) (by omega), getD_get _ _ _ g]
      have e : base ++ chg (es.take i) ++ [es[i].1] = base ++ chg (es.take (i + 1)) := by
        rw [List.take_add_one, List.getElem?_eq_getElem g, chg_app, List.append_assoc]
        rfl
      rw [e]
      exact lost6 hb hK fu (i + 1) g (by omega)
    · obtain rfl : i = es.length := by omega
      rw [List.take_length]
      exact cond_f (by simp) hK

theorem lost7 {a : List Int} (hb : a.length ≤ 1000) (h1 : ∀ x, a.count x ≤ 1) {Kx : Prop} {Kr : Bool → Prop} (hK : Kx) : ∀ (fu i : Nat), i ≤ a.length → a.length - i < fu → L.law8_MergequeueNothingIsLost_L2_R a fu i Kx Kr
  | 0, i, _, h => by omega
  | fu + 1, i, hi, h => by
    show L.law8_MergequeueNothingIsLost_L2_b a i _ Kx Kr
    unfold L.law8_MergequeueNothingIsLost_L2_b
    rcases Nat.lt_or_ge i a.length with g | g
    · refine cond_t (by simp; omega) ⟨⟨by omega, by omega⟩, ⟨by omega, by omega⟩, ?_⟩
      rw [Int.toNat_natCast, i64_succ (i := i) (by omega), getD_get _ _ _ g]
      refine Has_ok (by unfold big; simp; omega) ?_
      have hn : decide (a[i] ∈ a.take i) = false := by
        rw [decide_eq_false_iff_not]
        intro hm
        have h2 := h1 a[i]
        have h3 : 1 ≤ (a.take i).count a[i] := List.one_le_count_iff.2 hm
        have h4 : 1 ≤ (a.drop i).count a[i] := List.one_le_count_iff.2 (by rw [List.drop_eq_getElem_cons g]; exact List.mem_cons.2 (.inl rfl))
        have h5 : a.count a[i] = (a.take i).count a[i] + (a.drop i).count a[i] := by
          have := List.count_append (a := a[i]) (l₁ := a.take i) (l₂ := a.drop i)
          rwa [List.take_append_drop] at this
        omega
      rw [hn]
      exact cond_f rfl (lost7 hb h1 hK fu (i + 1) g (by omega))
    · exact cond_f (by simp; omega) hK

/-- A change is removed. -/
def remv (c : Int) (l : List Ev) : Bool := l.any fun e => e.1 == 2 && e.2.1 == c

theorem lost4 {evs : List Ev} {i : Nat} (hb : evs.length ≤ 1000) (hi : i < evs.length) {K : Bool → Prop} : ∀ (fu k : Nat) (rm : Bool), i ≤ k → k ≤ evs.length → evs.length - k < fu → K (rm || remv evs[i].2.1 (evs.drop k)) →
    L.law8_MergequeueNothingIsLost_L3_R evs i fu rm k K
  | 0, k, rm, _, _, h, _ => by omega
  | fu + 1, k, rm, hik, hk, h, hK => by
    show L.law8_MergequeueNothingIsLost_L3_b evs i rm k _ K
    unfold L.law8_MergequeueNothingIsLost_L3_b
    rcases Nat.lt_or_ge k evs.length with g | g
    · refine cond_t (by simp; omega) ⟨fun _ => ⟨by omega, by omega⟩, fun _ _ => ⟨by omega, by omega⟩, fun _ _ => ⟨by omega, by omega⟩, ?_⟩
      rw [Int.toNat_natCast, Int.toNat_natCast, i64_succ (i := k) (by omega), getD_get _ _ _ g, getD_get _ _ _ hi]
      refine lost4 hb hi fu (k + 1) _ (by omega) g (by omega) ?_
      rw [List.drop_eq_getElem_cons g] at hK
      simp only [remv, List.any_cons] at hK ⊢
      simp only [bor, band]
      rw [Bool.or_assoc]
      exact hK
    · rw [List.drop_of_length_le g] at hK
      refine cond_f (by simp; omega) ?_
      simpa [remv] using hK

theorem cnt_all (s : St) (x : Int) : (s.2.1 ++ s.2.2 ++ chg s.1).count x = cntS s x := by simp only [cntS, List.count_append]

theorem evs_take {k : Int} {es : List Ev} {i : Nat} (h : i < es.length) : evs k (es.take (i + 1)) = evs k (es.take i) + if es[i].1 = k then 1 else 0 := by
  rw [List.take_add_one, List.getElem?_eq_getElem h]
  simp only [evs, Option.toList_some, List.countP_append, List.countP_singleton, beq_iff_eq]

theorem evs_le (k : Int) (p : List Ev) : evs k p ≤ p.length := List.countP_le_length

theorem lost5 {es : List Ev} {s : St} (hb : es.length ≤ 40) (ht : tot s ≤ 40) (hP : Pst es s) {Kx : Int → Prop} {Kr : Bool → Prop} (hK : Kx 0) : ∀ (fu i : Nat) (b : Int), i ≤ es.length → es.length - i < fu → b = tot s + evs 2 (es.take i) - evs 1 (es.take i) →
    L.law8_MergequeueNothingIsLost_L4_R es (s.2.1 ++ s.2.2 ++ chg s.1) fu b i Kx Kr
  | 0, i, b, _, h, _ => by omega
  | fu + 1, i, b, hi, h, he => by
    show L.law8_MergequeueNothingIsLost_L4_b es (s.2.1 ++ s.2.2 ++ chg s.1) b i _ Kx Kr
    unfold L.law8_MergequeueNothingIsLost_L4_b
    have l1 := evs_le 1 (es.take i)
    have l2 := evs_le 2 (es.take i)
    rw [List.length_take] at l1 l2
    rcases Nat.lt_or_ge i es.length with g | g
    · have t1 := evs_take (k := 1) g
      have t2 := evs_take (k := 2) g
      have hin : inB (i : Int) es.length := ⟨by omega, by omega⟩
      refine cond_t (by simp; omega) ⟨hin, ?_⟩
      rw [Int.toNat_natCast, i64_succ (i := i) (by omega), getD_get _ _ _ g]
      have next : ∀ b' : Int, b' = tot s + evs 2 (es.take (i + 1)) - evs 1 (es.take (i + 1)) → L.law8_MergequeueNothingIsLost_L4_R es (s.2.1 ++ s.2.2 ++ chg s.1) fu b' ((i + 1 : Nat) : Int) Kx Kr := fun b' hb' => lost5 hb ht hP hK fu (i + 1) b' g (by omega) hb'
      by_cases k2 : es[i].1 = 2
      · refine cond_t (by simpa using k2) ⟨⟨hin, ?_⟩⟩
        rw [Int.toNat_natCast, getD_get _ _ _ g]
        refine cond_f (by rw [k2]; rfl) ?_
        rw [i64_id (by omega) (by omega)]
        rw [if_neg (by omega)] at t1
        rw [if_pos k2] at t2
        exact next _ (by omega)
      · refine cond_f (by simpa using k2) ⟨⟨hin, ?_⟩⟩
        rw [Int.toNat_natCast, getD_get _ _ _ g]
        rw [if_neg k2] at t2
        by_cases k1 : es[i].1 = 1
        · rw [if_pos k1] at t1
          have nx := next (b - 1) (by omega)
          have hi64 : i64 (b - 1) = b - 1 := i64_id (by omega) (by omega)
          refine cond_t (by simpa using k1) ⟨⟨es.length + 1, lost4 (by omega) g (es.length + 1) i false (Nat.le_refl _) hi (by omega) ?_⟩⟩
          refine ⟨fun _ => hin, ?_⟩
          simp only [Bool.false_or]
          cases hr : remv es[i].2.1 (es.drop i) with
          | true => exact cond_f rfl ⟨cond_f rfl (by rw [hi64]; exact nx)⟩
          | false =>
            refine cond_t rfl (Has_ok (by unfold big; simp [chg]; unfold tot at ht; omega) ⟨?_⟩)
            have hm : decide (es[i].2.1 ∈ s.2.1 ++ s.2.2 ++ chg s.1) = true := by
              rw [decide_eq_true_eq]
              rcases hP.add i es[i] (List.getElem?_eq_getElem g) k1 with ⟨k, e', z1, z2, z3, z4⟩ | z
              · exfalso
                simp only [remv, List.any_eq_false] at hr
                refine hr e' ?_ (by simp [z3, z4])
                have : (es.drop i)[k - i]? = some e' := by rw [List.getElem?_drop, show i + (k - i) = k from by omega]; exact z2
                exact List.mem_of_getElem? this
              · rw [← cnt_all] at z
                exact List.one_le_count_iff.1 z
            rw [hm]
            exact cond_f rfl (by rw [hi64]; exact nx)
        · rw [if_neg k1] at t1
          exact cond_f (by simpa using k1) (next _ (by omega))
    · obtain rfl : i = es.length := by omega
      rw [List.take_length] at he
      have := hP.sum
      refine cond_f (by simp) ?_
      have h0 : b = 0 := by omega
      rw [h0]
      exact hK

theorem lost_true (w : Int) (es : List Ev) (K : Bool → Prop) (hK : K true) : L.law8_MergequeueNothingIsLost w es K := by
  refine ⟨run_ok (example_ok (cond_f rfl ?_))⟩
  by_cases h : (runQ w es).1.1 = 0
  · obtain ⟨_, _, h3, _⟩ := runQ_ok h
    have hP := pst_ok h
    have hI := (runQ_inv w es).1
    have J : L.law8_MergequeueNothingIsLost_J3 es (runQ w es).2.1 ((([] : List Int) ++ (runQ w es).2.2.1) ++ (runQ w es).2.2.2) K := by
      rw [List.nil_append]
      refine ⟨⟨⟨(runQ w es).2.1.length + 1, ?_⟩⟩⟩
      have l6 := lost6 (es := (runQ w es).2.1) (base := (runQ w es).2.2.1 ++ (runQ w es).2.2.2) (by simp; omega) (K := fun all1 => L.law8_MergequeueNothingIsLost_L2 all1 0 (L.law8_MergequeueNothingIsLost_L4 es all1 (all1.length : Int) 0 (fun balance => K (balance == 0)) (fun r6 => K r6)) (fun r6 => K r6)) (by
        have hlen : ((runQ w es).2.2.1 ++ (runQ w es).2.2.2 ++ chg (runQ w es).2.1).length = tot (runQ w es).2 := by simp [tot, chg]; omega
        have ht : tot (runQ w es).2 ≤ 40 := by unfold tot; omega
        refine ⟨⟨_, lost7 (by omega) (fun x => by rw [cnt_all]; exact hP.one x) ⟨⟨es.length + 1, ?_⟩⟩ (((runQ w es).2.2.1 ++ (runQ w es).2.2.2 ++ chg (runQ w es).2.1).length + 1) 0 (by omega) (by omega)⟩⟩
        rw [hlen]
        exact lost5 h3 ht hP (by exact hK) (es.length + 1) 0 _ (by omega) (by omega) (by simp [evs])) ((runQ w es).2.1.length + 1) 0 (by omega) (by omega)
      simp only [List.take_zero, chg, List.map_nil, List.append_nil] at l6
      exact l6
    have f1 : fits (([] : List Int).length + (runQ w es).2.2.1.length) := by unfold fits; simp; omega
    have f2 : fits ((([] : List Int) ++ (runQ w es).2.2.1).length + (runQ w es).2.2.2.length) := by unfold fits; simp; omega
    exact cond_f (by rw [h]; rfl) ⟨⟨f1, f2, J⟩, f1, f2, J⟩
  · exact cond_t (by simpa using h) hK

end Mq

theorem MergequeueNothingIsLost_true (xs : ArgDen [(false, (.int .i64)), (false, EvT)]) (_ : WfAll _ xs) (K : Bool → Prop) (hK : K true) : L.law8_MergequeueNothingIsLost xs.1 xs.2.1 K :=
  Mq.lost_true xs.1 xs.2.1 K hK

end Go.Proofs.Ytpfcgenmgddgpaa

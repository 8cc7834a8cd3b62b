/-
  Channels are queues; the four laws of the simulation that need no reference. Conditions: none.
-/
import Derived.Test.YtfkhdfmnhkndeaaDlH
import Derived.Test.YtfkhdfmnhkndeaaEngV
namespace Go.Proofs.Ytfkhdfmnhkndeaa
open Eng
namespace Dl

theorem sender_inner {l : List Res} (hm : Mild l) {i : Nat} (hi : i < l.length) {K : Int → Prop} (hK : K (cnt (l.getD i r0).2.1 (l.take i))) : ∀ (fu k : Nat), k ≤ i → i - k < fu →
    L.law8_sender_L1_R l i fu (cnt (l.getD i r0).2.1 (l.take k)) k K
  | 0, k, _, h => by omega
  | fu + 1, k, hk, h => by
    show L.law8_sender_L1_b l i (cnt (l.getD i r0).2.1 (l.take k)) k _ K
    unfold L.law8_sender_L1_b
    have hfew := hm.few
    rcases Nat.lt_or_ge k i with g | g
    · have hb : inB (k : Int) l.length := ⟨by omega, by omega⟩
      have hb2 : inB (i : Int) l.length := ⟨by omega, by omega⟩
      refine cond_t (by simp; omega) ⟨hb, hb2, ?_⟩
      rw [Int.toNat_natCast, Int.toNat_natCast, i64_succ (i := k) (by omega)]
      have ih := sender_inner hm hi hK fu (k + 1) g (by omega)
      rw [take_snoc (by omega), cnt_app] at ih
      by_cases he : (l.getD k r0).2.1 = (l.getD i r0).2.1
      · have h1 := cnt_le (l.getD i r0).2.1 (l.take k)
        rw [List.length_take] at h1
        refine cond_t (beq_iff_eq.2 he) ?_
        rw [if_pos he] at ih
        rw [i64_id (by omega) (by omega)]
        exact_mod_cast ih
      · refine cond_f (beq_eq_false_iff_ne.2 he) ?_
        rw [if_neg he, Nat.add_zero] at ih
        exact ih
    · obtain rfl : k = i := by omega
      exact cond_f (by simp) hK

theorem sender_ok {caps : List Int} {sc : List (List Op)} {l : List Res} (hm : Mild l) (hf : AllFit caps sc l) {i : Nat} (hi : i < l.length) {K : Bool → Prop} (hK : K (decide ((opOf sc (l.take i) (l.getD i r0).2.1).1 = 1))) : L.law8_sender sc l i K := by
  refine ⟨⟨⟨i + 1, ?_⟩⟩⟩
  have h0 := sender_inner hm hi (K := fun n => (inB (i : Int) l.length) ∧ ((((bif (decide (((l.getD i r0).2.1) ≥ 0)) then (decide (((l.getD i r0).2.1) < (sc.length : Int))) else false) == true) = true → inB ((l.getD i r0).2.1) sc.length)) ∧ ((((bif (bif (decide (((l.getD i r0).2.1) ≥ 0)) then (decide (((l.getD i r0).2.1) < (sc.length : Int))) else false) then (decide (n < ((sc.getD (((l.getD i r0).2.1).toNat) []).length : Int))) else false) == true) = true → inB ((l.getD i r0).2.1) sc.length)) ∧ ((((bif (bif (decide (((l.getD i r0).2.1) ≥ 0)) then (decide (((l.getD i r0).2.1) < (sc.length : Int))) else false) then (decide (n < ((sc.getD (((l.getD i r0).2.1).toNat) []).length : Int))) else false) == true) = true → inB n (sc.getD (((l.getD i r0).2.1).toNat) []).length)) ∧ K (bif (bif (bif (decide (((l.getD i r0).2.1) ≥ 0)) then (decide (((l.getD i r0).2.1) < (sc.length : Int))) else false) then (decide (n < ((sc.getD (((l.getD i r0).2.1).toNat) []).length : Int))) else false) then ((((sc.getD (((l.getD i r0).2.1).toNat) []).getD n.toNat o0).1) == 1) else false)) (by
    have hfi := hf i hi
    have hp := hfi.pr
    have ho := hfi.op
    have hb : inB (i : Int) l.length := ⟨by omega, by omega⟩
    refine ⟨hb, fun _ => hp, fun _ => hp, fun _ => ⟨by omega, by omega⟩, ?_⟩
    have d1 : decide (((l.getD i r0).2.1) ≥ 0) = true := decide_eq_true (by omega)
    have d2 : decide (((l.getD i r0).2.1) < (sc.length : Int)) = true := decide_eq_true (by omega)
    have d3 : decide (((cnt (l.getD i r0).2.1 (l.take i) : Nat) : Int) < ((sc.getD (((l.getD i r0).2.1).toNat) []).length : Int)) = true := decide_eq_true (by omega)
    rw [d1, d2]
    simp only [cond_true]
    rw [d3, Int.toNat_natCast]
    have e : (((sc.getD (((l.getD i r0).2.1).toNat) []).getD (cnt (l.getD i r0).2.1 (l.take i)) o0).1 == 1) = decide ((opOf sc (l.take i) (l.getD i r0).2.1).1 = 1) := by
      unfold opOf
      by_cases h : ((sc.getD (((l.getD i r0).2.1).toNat) []).getD (cnt (l.getD i r0).2.1 (l.take i)) o0).1 = 1
      · rw [decide_eq_true h, beq_iff_eq.2 h]
      · rw [decide_eq_false h, beq_eq_false_iff_ne.2 h]
    simp only [cond_true]
    rw [e]
    exact hK) (i + 1) 0 (by omega) (by omega)
  rw [Int.toNat_natCast]
  exact h0

theorem que_inner {caps : List Int} {sc : List (List Op)} (hv : Valid caps sc) {l : List Res} (hm : Mild l) (hf : AllFit caps sc l) {c : Nat} (hc : c < caps.length) {K2 : Pool → Prop} {Kr : Bool → Pool → Prop} (hK : ∀ m, K2 m) :
    ∀ (fu i : Nat) (w : Hd) (m : Pool), i ≤ l.length → l.length - i < fu → Lies m w (rep sc c l i) → L.law8_DeadlineChannelsAreQueues_L1_R caps sc c l fu w i m K2 Kr
  | 0, i, w, m, _, h, _ => by omega
  | fu + 1, i, w, m, hi, h, hl => by
    show L.law8_DeadlineChannelsAreQueues_L1_b caps sc c l w i m _ K2 Kr
    unfold L.law8_DeadlineChannelsAreQueues_L1_b
    have hfew := hm.few
    rcases Nat.lt_or_ge i l.length with g | g
    · have hb : inB (i : Int) l.length := ⟨by omega, by omega⟩
      refine cond_t (by simp; omega) ⟨hb, ?_⟩
      rw [Int.toNat_natCast, i64_succ (i := i) (by omega)]
      have ih := fun w' m' => que_inner hv hm hf hc (Kr := Kr) hK fu (i + 1) w' m' g (by omega)
      have hfi := hf i g
      have hlen : (l.take i).length = i := by simp; omega
      have happ : rep sc c (l.take i) (l.take i).length = rep sc c l i := by
        have := rep_app sc c (l.take i) (l.drop i) i (by omega)
        rw [List.take_append_drop] at this
        rw [hlen, this]
      have hcb := capsB hv hc
      have hs : rep sc c l (i + 1) = if (l.getD i r0).2.2.1 = c then (if (opOf sc (l.take i) (l.getD i r0).2.1).1 = 1 then rep sc c l i ++ [(l.getD i r0).2.2.2] else (rep sc c l i).tail) else rep sc c l i := rfl
      by_cases he : (l.getD i r0).2.2.1 = c
      · refine cond_f (by rw [bne_eq_false_iff_eq]; exact he) (sender_ok hm hf g ?_)
        rw [if_pos he] at hs
        by_cases hk : (opOf sc (l.take i) (l.getD i r0).2.1).1 = 1
        · rw [decide_eq_true hk]
          rw [if_pos hk] at hs
          have hsn := hfi.snd c hc he hk
          rw [happ] at hsn
          have hn : w.n = (rep sc c l i).length := hl.1
          refine cond_t rfl ⟨hb, hl.ok, ?_, ?_⟩
          · simp only [fits, List.length_singleton]
            omega
          · have fin : ∀ (w' : Hd) (m' : Pool), Lies m' w' (rep sc c l i ++ [(l.getD i r0).2.2.2]) → L.law8_DeadlineChannelsAreQueues_J1 caps c w' m' (fun waiting1 m => L.law8_DeadlineChannelsAreQueues_L1_R caps sc c l fu waiting1 ((i + 1 : Nat) : Int) m K2 Kr) Kr := by
              intro w' m' hl'
              constructor
              unfold L.law8_DeadlineChannelsAreQueues_J1_B
              refine ⟨⟨by omega, by omega⟩, cond_f ?_ (ih w' m' (by rw [hs]; exact hl'))⟩
              rw [Int.toNat_natCast]
              have := hl'.1
              rw [List.length_append, List.length_singleton] at this
              exact decide_eq_false (by omega)
            by_cases hcc : w.n + 1 ≤ w.c
            · refine cond_t (Nat.ble_eq_true_of_le hcc) ?_
              exact fin _ _ (hl.more _ hcc).1
            · refine cond_f (by rw [Bool.eq_false_iff]; exact fun h => hcc (Nat.le_of_ble_eq_true h)) fun b cap hb1 hcap => ?_
              exact fin _ _ (hl.moved _ hb1 hcap).1
        · rw [decide_eq_false hk]
          rw [if_neg hk] at hs
          obtain ⟨xs, hx⟩ := hfi.rcv c hc he hk
          rw [happ] at hx
          rw [hx] at hl hs
          obtain ⟨p1, p2⟩ := hl.head
          obtain ⟨t1, _⟩ := hl.tail
          have hn : w.n = xs.length + 1 := by rw [hl.1]; rfl
          refine cond_f rfl ⟨fun _ => ⟨⟨by omega, by omega⟩, hl.ok⟩, fun _ => p1, fun _ => hb, cond_f ?_ ⟨⟨⟨by omega, by omega⟩, hl.2.1⟩, ih _ _ (by rw [hs]; exact t1)⟩⟩
          have d1 : ((((w.n : Nat) : Int)) == 0) = false := beq_eq_false_iff_ne.2 (by omega)
          rw [d1, show ((0 : Int).toNat) = 0 from rfl, p2]
          simp
      · rw [if_neg he] at hs
        exact cond_t (bne_iff_ne.2 he) (ih w m (by rw [hs]; exact hl))
    · exact cond_f (by simp; omega) (hK m)

theorem que_loop {caps : List Int} {sc : List (List Op)} (hv : Valid caps sc) {l : List Res} (hm : Mild l) (hf : AllFit caps sc l) {K0 : Pool → Prop} {Kr : Bool → Pool → Prop} (hK : ∀ m, K0 m) :
    ∀ (fu c : Nat) (m : Pool), c ≤ caps.length → caps.length - c < fu → L.law8_DeadlineChannelsAreQueues_L2_R caps sc l 0 fu c m K0 Kr
  | 0, c, m, _, h => by omega
  | fu + 1, c, m, hc, h => by
    show L.law8_DeadlineChannelsAreQueues_L2_b caps sc l 0 c m _ K0 Kr
    unfold L.law8_DeadlineChannelsAreQueues_L2_b
    have hnc := hv.nc
    rcases Nat.lt_or_ge c caps.length with g | g
    · refine cond_t (by simp; omega) ⟨⟨l.length + 1, ?_⟩⟩
      refine que_inner hv hm hf g (fun m' => ?_) (l.length + 1) 0 Hd.nil m (by omega) (by omega) (Lies.nil m)
      rw [i64_succ (by omega)]
      exact que_loop hv hm hf hK fu (c + 1) m' g (by omega)
    · exact cond_f (by simp; omega) (hK m)

theorem que_true {caps : List Int} {sc : List (List Op)} (hb : Bd sc) (ticks : Int) (K : Bool → Prop) (hK : K true) : L.law8_DeadlineChannelsAreQueues caps sc ticks K := by
  refine ⟨run_ok hb (fun hv h0 h1 => example_ok (cond_f rfl ?_)) fun _ c i hc => example_ok (cond_f rfl ⟨⟨1, ?_⟩⟩)⟩
  · exact ⟨⟨caps.length + 1, que_loop hv (runN_mild hv (by omega)) (runN_tr hv _).all (fun _ => hK) (caps.length + 1) 0 [] (by omega) (by omega)⟩⟩
  · refine cond_f ?_ hK
    rw [beq_eq_false_iff_ne.2 hc]; rfl

end Dl

abbrev DlT : Ty := .slice (.slice (.pair (.int .i64) (.pair (.int .i64) (.pair (.int .i64) (.pair (.int .i64) (.slice (.int .i64)))))))

theorem Dl.bd {sc : DlT.den} (h : Wf DlT sc) : Dl.Bd sc := fun l hl o ho => ((h.2 l hl).2 o ho).2.2.2.2.1

theorem DeadlineTimeoutsWait_true (xs : ArgDen [(false, (.slice (.int .i64))), (false, DlT), (false, (.int .i64))]) (hw : WfAll _ xs) (K : Bool → Prop) (hK : K true) : L.law8_DeadlineTimeoutsWait xs.1 xs.2.1 xs.2.2.1 K :=
  Dl.wait_true (Dl.bd hw.2.1) xs.2.2.1 K hK

theorem DeadlineChannelsAreQueues_true (xs : ArgDen [(false, (.slice (.int .i64))), (false, DlT), (false, (.int .i64))]) (hw : WfAll _ xs) (K : Bool → Prop) (hK : K true) : L.law8_DeadlineChannelsAreQueues xs.1 xs.2.1 xs.2.2.1 K :=
  Dl.que_true (Dl.bd hw.2.1) xs.2.2.1 K hK

theorem DeadlineOperationsAddUp_true (xs : ArgDen [(false, (.slice (.int .i64))), (false, DlT), (false, (.int .i64))]) (hw : WfAll _ xs) (K : Bool → Prop) (hK : K true) : L.law8_DeadlineOperationsAddUp xs.1 xs.2.1 xs.2.2.1 K :=
  Dl.sum_true (Dl.bd hw.2.1) xs.2.2.1 K hK

theorem DeadlineTimeGoesOn_true (xs : ArgDen [(false, (.slice (.int .i64))), (false, DlT), (false, (.int .i64)), (false, (.int .i64))]) (hw : WfAll _ xs) (K : Bool → Prop) (hK : K true) : L.law8_DeadlineTimeGoesOn xs.1 xs.2.1 xs.2.2.1 xs.2.2.2.1 K :=
  Dl.time_true (Dl.bd hw.2.1) xs.2.2.1 xs.2.2.2.1 K hK

end Go.Proofs.Ytfkhdfmnhkndeaa

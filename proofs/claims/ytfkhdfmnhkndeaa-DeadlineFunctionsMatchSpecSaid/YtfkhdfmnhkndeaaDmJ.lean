/-
  Validate, Run and Stuck answer as the specification requires: the law as a plain law. Conditions: none.
-/
import Derived.Test.YtfkhdfmnhkndeaaDmI
import Derived.Test.YtfkhdfmnhkndeaaEngV
namespace Go.Proofs.Ytfkhdfmnhkndeaa
open Eng
namespace Dl

theorem eqi_loop {xs : List Int} (hb : xs.length < 1000) {K0 : Prop} {K : Bool → Prop} (hK : K0) : ∀ (fu i : Nat), i ≤ xs.length → xs.length - i < fu → L.ref8_EqualInts_L1_R xs xs fu i K0 K
  | 0, i, _, h => by omega
  | fu + 1, i, hi, h => by
    show L.ref8_EqualInts_L1_b xs xs i _ K0 K
    unfold L.ref8_EqualInts_L1_b
    rcases Nat.lt_or_ge i xs.length with g | g
    · refine cond_t (by simp; omega) ⟨⟨by omega, by omega⟩, ⟨by omega, by omega⟩, cond_f (by simp) ?_⟩
      rw [i64_succ (by omega)]
      exact eqi_loop hb hK fu (i + 1) g (by omega)
    · exact cond_f (by simp; omega) hK

theorem eqi_ok {xs : List Int} (hb : xs.length < 1000) {K : Bool → Prop} (hK : K true) : L.ref8_EqualInts xs xs K :=
  ⟨cond_f (by simp) ⟨⟨xs.length + 1, eqi_loop hb hK (xs.length + 1) 0 (by omega) (by omega)⟩⟩⟩

theorem eqr_loop {xs : List Res} (hb : xs.length < 1000) {K0 : Prop} {K : Bool → Prop} (hK : K0) : ∀ (fu i : Nat), i ≤ xs.length → xs.length - i < fu → L.ref8_EqualResults_L1_R xs xs fu i K0 K
  | 0, i, _, h => by omega
  | fu + 1, i, hi, h => by
    show L.ref8_EqualResults_L1_b xs xs i _ K0 K
    unfold L.ref8_EqualResults_L1_b
    rcases Nat.lt_or_ge i xs.length with g | g
    · refine cond_t (by simp; omega) ⟨⟨by omega, by omega⟩, ⟨by omega, by omega⟩, cond_f (by simp) ?_⟩
      rw [i64_succ (by omega)]
      exact eqr_loop hb hK fu (i + 1) g (by omega)
    · exact cond_f (by simp; omega) hK

theorem eqr_ok {xs : List Res} (hb : xs.length < 1000) {K : Bool → Prop} (hK : K true) : L.ref8_EqualResults xs xs K :=
  ⟨cond_f (by simp) ⟨⟨xs.length + 1, eqr_loop hb hK (xs.length + 1) 0 (by omega) (by omega)⟩⟩⟩

abbrev exS : List (List Op) := [[(1, (0, (5, (0, []))))], [(2, (0, (0, (0, [])))), (2, (0, (0, (0, []))))]]

theorem ex_valid : Valid [1] exS := by
  refine ⟨by decide, by decide, fun n hn => ?_, fun l hl => ?_, fun l hl o ho => ?_⟩
  · rw [List.mem_singleton.1 hn]; decide
  · simp only [exS, List.mem_cons, List.not_mem_nil, or_false] at hl
    rcases hl with rfl | rfl <;> decide
  · simp only [exS, List.mem_cons, List.not_mem_nil, or_false] at hl
    have h1 : OpOk 1 (1, (0, (5, (0, [])))) := ⟨by decide, by decide, by decide, by decide, by decide, by decide, by decide, fun c hc => absurd hc List.not_mem_nil, by decide, by decide⟩
    have h2 : OpOk 1 (2, (0, (0, (0, [])))) := ⟨by decide, by decide, by decide, by decide, by decide, by decide, by decide, fun c hc => absurd hc List.not_mem_nil, by decide, by decide⟩
    rcases hl with rfl | rfl
    · rw [List.mem_singleton.1 ho]; exact h1
    · simp only [List.mem_cons, List.not_mem_nil, or_false, or_self] at ho
      rw [ho]; exact h2

theorem ex_run : ∀ n : Nat, runN [1] exS (n + 1) = ⟨[[]], [1, 1], [1, 1], (n : Int) + 1, [(0, (0, (0, 5))), (0, (1, (0, 5)))]⟩
  | 0 => rfl
  | n + 1 => by
    show stepT [1] exS (runN [1] exS (n + 1)) = _
    rw [ex_run n]
    rfl

theorem example_ok {K : Bool → Prop} (hK : K true) : L.law8_deadlineExample K := by
  have hb : Bd exS := fun l hl o ho => by
    have := (ex_valid.ops l hl o ho).few
    omega
  refine ⟨run_ok hb (fun _ _ _ => ?_) (fun h => absurd ex_valid h) fun _ h => absurd ⟨by decide, by decide⟩ h⟩
  rw [show (3 : Int).toNat = 2 + 1 from rfl, ex_run 2]
  refine stuck_ok hb (fun _ n h1 _ _ => ?_) fun h => absurd ex_valid h
  obtain ⟨m, rfl⟩ : ∃ m, n = m + 1 := ⟨n - 1, by omega⟩
  rw [ex_run m]
  refine cond_t rfl ?_
  exact eqr_ok (by decide) (cond_t rfl (eqi_ok (xs := [0, 1]) (by decide) (cond_t rfl (eqi_ok (xs := [1]) (by decide) hK))))


theorem rel_left {caps : List Int} {sc : List (List Op)} (hv : Valid caps sc) {t : Int} (ht : 0 ≤ t ∧ t ≤ 100000) {K : List Int → List Res → Prop}
    (hK : K (restT sc (runN caps sc t.toNat)) (runN caps sc t.toNat).res) :
    L.ref8_Simulate_h47 caps sc t (fun r7 r8 r9 r10 r11 r12 r13 r14 r15 r16 r17 r18 r19 r20 r21 r22 r23 r24 r25 r26 r27 r28 r29 r30 r31 r32 r33 => L.ref8_World_Left_h54 r7 r8 r9 r10 r11 r12 r13 r14 r15 r16 r17 r18 r19 r20 r21 r22 r23 r24 r25 r26 r27 r28 r29 r30 r31 r32 r33 (fun w w1 w2 w3 w4 w5 w6 w7 w8 w9 w10 w11 w12 w13 w14 w15 w16 w17 w18 w19 w20 w21 w22 w23 w24 w25 m r34 => K r34 r33)) := by
  refine sim_ok hv ht fun snt m h0 h1 h2 h3 t0 t1 t2 t3 n0 n1 n2 n3 n4 s0 s1 s2 s3 s4 e0 e1 e2 e3 e4 hr => ?_
  exact left_ok hv (runN_ok hv _).1 hr.nx hK

theorem j4_ok {caps : List Int} {sc : List (List Op)} (hv : Valid caps sc) {n : Nat} (h62 : 62 ≤ n) (h2542 : n ≤ 2542) (hq : Quiet caps sc n 62) {ticks : Int} {l : List Res} {left : List Int} {e1 e11 : Int} {Kr : Bool → Prop}
    (h3 : L.law8_DeadlineFunctionsMatchSpec_J3 caps sc ticks l left e1 e11 Kr) : L.law8_DeadlineFunctionsMatchSpec_J4 caps sc ticks 0 0 l left e1 e11 (ordA sc (runN caps sc n)) 0 0 Kr := by
  constructor
  unfold L.law8_DeadlineFunctionsMatchSpec_J4_B
  have h5 := hv.ns
  refine cond_f rfl ?_
  refine rel_left hv (t := 2600) (by omega) (K := fun r34 _ => L.law8_DeadlineFunctionsMatchSpec_L1 r34 0 ([] : List Int) _) ?_
  refine stk_ok h5 ?_
  refine cond_f rfl ?_
  have e : ordA sc (runN caps sc (2600 : Int).toNat) = ordA sc (runN caps sc n) := by
    have := quiet_ok hv hq (2600 - n)
    rw [show n + (2600 - n) = (2600 : Int).toNat from by omega] at this
    exact this
  rw [e]
  have hl := ordA_len sc (runN caps sc n)
  refine eqi_ok (by omega) ⟨?_⟩
  exact h3

theorem match_true {caps : List Int} {sc : List (List Op)} (hb : Bd sc) (ticks : Int) (K : Bool → Prop) (hK : K true) : L.law8_DeadlineFunctionsMatchSpec caps sc ticks K := by
  constructor
  unfold L.law8_DeadlineFunctionsMatchSpec_B
  refine fault_ok hb (fun hv hz => ?_) fun hv hn => ?_
  · have h5 := hv.ns
    refine run_ok hb (fun _ h0 h1 => ?_) (fun h => absurd hv h) fun _ hr => ?_
    · refine stuck_ok hb (fun _ n h62 h2542 hq => example_ok (cond_t rfl (validate_ok hb (fun _ _ => ⟨cond_f rfl (j4_ok hv h62 h2542 hq ⟨?_⟩)⟩) fun h => absurd hv h))) fun h => absurd hv h
      unfold L.law8_DeadlineFunctionsMatchSpec_J3_B
      refine cond_f (by simp; omega) ?_
      refine sim_ok hv (t := ticks) (by omega) fun snt m h0 h1 h2 h3 t0 t1 t2 t3 n0 n1 n2 n3 n4 s0 s1 s2 s3 s4 e0 e1 e2 e3 e4 hr => ?_
      have hlr := res_le hv (runN_ok hv ticks.toNat).1
      refine cond_t rfl (eqr_ok (by omega) (cond_t rfl ?_))
      refine left_ok hv (runN_ok hv _).1 hr.nx ?_
      refine eqi_ok (by unfold restT; rw [List.length_map, List.length_range]; omega) hK
    · refine stuck_ok hb (fun _ n h62 h2542 hq => example_ok (cond_t rfl (validate_ok hb (fun _ _ => ⟨cond_f rfl (j4_ok hv h62 h2542 hq ⟨?_⟩)⟩) fun h => absurd hv h))) fun h => absurd hv h
      unfold L.law8_DeadlineFunctionsMatchSpec_J3_B
      refine cond_t (by simp; omega) ⟨hK⟩
  · refine run_ok hb (fun h => absurd h hv) (fun _ => ?_) fun h => absurd h hv
    refine stuck_ok hb (fun h => absurd h hv) fun _ => ?_
    refine example_ok (cond_t rfl (validate_ok hb (fun h => absurd h hv) fun _ _ => ⟨cond_f ?_ ⟨?_⟩⟩))
    · simp
    · unfold L.law8_DeadlineFunctionsMatchSpec_J4_B
      refine cond_t (bne_iff_ne.2 hn) ?_
      have e : (bif (bif (bif (bif (((valF caps sc).1 == (valF caps sc).1) && (((valF caps sc).2 == (valF caps sc).2) && true)) then (((valF caps sc).1 == (valF caps sc).1) && (((valF caps sc).2 == (valF caps sc).2) && true)) else false) then ((([] : List Res).length : Int) == 0) else false) then ((([] : List Int).length : Int) == 0) else false) then ((([] : List Int).length : Int) == 0) else false) = true := by
        simp
      rw [e]
      exact hK

end Dl

abbrev DlT : Ty := .slice (.slice (.pair (.int .i64) (.pair (.int .i64) (.pair (.int .i64) (.pair (.int .i64) (.slice (.int .i64)))))))

theorem Dl.bd {sc : DlT.den} (h : Wf DlT sc) : Dl.Bd sc := fun l hl o ho => ((h.2 l hl).2 o ho).2.2.2.2.1

theorem DeadlineFunctionsMatchSpec_true (xs : ArgDen [(false, (.slice (.int .i64))), (false, DlT), (false, (.int .i64))]) (hw : WfAll _ xs) (K : Bool → Prop) (hK : K true) : L.law8_DeadlineFunctionsMatchSpec xs.1 xs.2.1 xs.2.2.1 K :=
  Dl.match_true (Dl.bd hw.2.1) xs.2.2.1 K hK

end Go.Proofs.Ytfkhdfmnhkndeaa

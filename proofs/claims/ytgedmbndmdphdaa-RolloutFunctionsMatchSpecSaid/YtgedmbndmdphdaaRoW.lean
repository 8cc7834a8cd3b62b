/-
  RolloutFunctionsMatchSpec as a plain law about the lifted functions. Conditions: none.
-/
import Derived.Test.YtgedmbndmdphdaaRoU
namespace Go.Proofs.Ytgedmbndmdphdaa
open Eng
namespace Ro
open Can (okC okC_nat)

theorem rst_len {P : Par} {n : Nat} {t : List Ent} {e : Ev} : (rst P n t e).2.length ≤ t.length + 1 := by
  have hf : ∀ f : Ent → Bool, (t.filter f).length ≤ t.length := fun f => List.length_filter_le _ _
  unfold rst
  split
  · simp
  split
  · split
    · simp
    split
    · simp
    split <;> simp
  split
  · split
    · simp
    split
    · simp
    split
    · simp
    split
    · have := hf fun x => !(x.1 == (act e.2.2.1.toNat t).1)
      simp only; omega
    · simp [upd]
  split
  · split
    · simp
    split
    · simp
    · simp [adv]
  split
  · have := hf fun x => !(x.1 == e.2.1)
    simp only; omega
  · simp

theorem ev_loop {n : Nat} (hn0 : 0 < n) (hn : n ≤ 5) {P : Par} (hP : P.ok) {es : List Ev} (hes : es.length ≤ 40) {c ix : Int} {rs : List Row}
    {K : Int → Int → Int → Int → Int → Int → Int → List Int → List Int → List (Int × Int) → Prop} (h1 : ∀ t, c = 0 → rs = rows n t → Falls n t → t.length ≤ 40 → K 0 0 n P.g P.b P.need P.mille (vsT t) (rsT t) (csT t))
    (h2 : ∀ t, c ≠ 0 → K c ix n P.g P.b P.need P.mille (vsT t) (rsT t) (csT t)) : ∀ (fu i : Nat) (t : List Ent), Falls n t → t.length ≤ i → i ≤ es.length → es.length - i + 1 < fu → go P (es.drop i) i (rows n t) = (c, (ix, rs)) →
    L.law8_RolloutFunctionsMatchSpec_L3_R es fu i 0 0 n P.g P.b P.need P.mille (vsT t) (rsT t) (csT t) K
  | 0, i, t, _, _, _, h, _ => by omega
  | fu + 1, i, t, hf, ht, hi, h, hgo => by
    show L.law8_RolloutFunctionsMatchSpec_L3_b es i 0 0 n P.g P.b P.need P.mille (vsT t) (rsT t) (csT t) _ K
    unfold L.law8_RolloutFunctionsMatchSpec_L3_b
    rcases Nat.lt_or_ge i es.length with g | g
    · refine cond_t (by simp; omega) ⟨⟨by omega, by omega⟩, ?_⟩
      rw [Int.toNat_natCast, getD_get _ _ _ g]
      rw [List.drop_eq_getElem_cons g] at hgo
      obtain ⟨s1, s2⟩ := stp_rows (P := P) hn0 hf es[i]
      have sl := rst_len (P := P) (n := n) (t := t) (e := es[i])
      unfold go at hgo
      rw [s1] at hgo
      have main : L.ref8_Deployment_Step_h15 n P.g P.b P.need P.mille (vsT t) (rsT t) (csT t) (es[i]).1 (es[i]).2.1 (es[i]).2.2.1 (es[i]).2.2.2.1 (es[i]).2.2.2.2 (fun r5 r6 r7 r8 r9 r10 r11 r12 r13 => L.law8_RolloutFunctionsMatchSpec_J5 i r13 0 0 r5 r6 r7 r8 r9 r10 r11 r12 (fun w4 w5 d8 d9 d10 d11 d12 d13 d14 d15 _ _ _ _ _ _ _ _ => (fun i_ w2 w3 d d1 d2 d3 d4 d5 d6 d7 => L.law8_RolloutFunctionsMatchSpec_L3_R es fu i_ w2 w3 d d1 d2 d3 d4 d5 d6 d7 K) (i64 ((i : Int) + 1)) w4 w5 d8 d9 d10 d11 d12 d13 d14 d15)) := by
        refine rstep_ok hn hP hf (by omega) ⟨?_⟩
        unfold L.law8_RolloutFunctionsMatchSpec_J5_B
        by_cases hc : (rst P n t es[i]).1 ≠ 0
        · simp only [if_pos hc] at hgo
          cases hgo
          refine cond_t (bne_iff_ne.2 hc) (Can.Fault_ok ?_)
          cases fu with
          | zero => omega
          | succ fu =>
            show L.law8_RolloutFunctionsMatchSpec_L3_b es _ _ _ n P.g P.b P.need P.mille _ _ _ _ K
            unfold L.law8_RolloutFunctionsMatchSpec_L3_b
            refine cond_f ?_ (h2 _ hc)
            rw [beq_eq_false_iff_ne.2 hc]
            cases decide (i64 ((i : Int) + 1) < (es.length : Int)) <;> rfl
        · simp only [if_neg hc] at hgo
          refine cond_f (by rw [bne_eq_false_iff_eq]; omega) ?_
          rw [i64_id (by omega) (by omega)]
          have := ev_loop hn0 hn hP hes h1 h2 fu (i + 1) _ s2 (by omega) g (by omega) (by exact_mod_cast hgo)
          exact_mod_cast this
      exact ⟨main, main⟩
    · obtain rfl : i = es.length := by omega
      rw [List.drop_length] at hgo
      cases hgo
      exact cond_f (by simp) (h1 t rfl rfl hf (by omega))

theorem want_loop {rows : List Row} (hl : rows.length ≤ 5) (hb : ∀ r, r ∈ rows → r.1.length ≤ 40) {K : List Int → Prop} (hK : K (rows.map ver)) : ∀ (fu i : Nat), i ≤ rows.length → rows.length - i < fu →
    L.law8_RolloutFunctionsMatchSpec_L2_R rows fu i ((rows.take i).map ver) K
  | 0, i, _, h => by omega
  | fu + 1, i, hi, h => by
    show L.law8_RolloutFunctionsMatchSpec_L2_b rows i _ _ K
    unfold L.law8_RolloutFunctionsMatchSpec_L2_b
    rcases Nat.lt_or_ge i rows.length with g | g
    · have hin : inB (i : Int) rows.length := ⟨by omega, by omega⟩
      refine cond_t (by simp; omega) ⟨hin, fun _ => hin, ?_⟩
      rw [Int.toNat_natCast, getD_get _ _ _ g, i64_id (n := (i : Int) + 1) (by omega) (by omega)]
      have hbi := hb _ (List.getElem_mem g)
      have ih := want_loop hl hb hK fu (i + 1) g (by omega)
      rw [List.take_add_one, List.map_append, List.getElem?_eq_getElem g] at ih
      have hf : ∀ x : Int, fits (((rows.take i).map ver).length + ([x] : List Int).length) := fun x => by
        simp only [fits, List.length_map, List.length_take, List.length_singleton]
        omega
      cases hc : (bif (rows[i]).2.1 == 0 then decide (((rows[i]).1.length : Int) > 0) else false) with
      | true =>
        have e : ver rows[i] = (rows[i]).1.getD ((rows[i]).1.length - 1) 0 := by unfold ver; rw [hc]; rfl
        have hpos : 0 < (rows[i]).1.length := by
          cases h0 : (rows[i]).2.1 == 0
          · rw [h0] at hc; cases hc
          · rw [h0] at hc; simpa using hc
        have en : (i64 (((rows[i]).1.length : Int) - 1)) = (((rows[i]).1.length - 1 : Nat) : Int) := by
          rw [i64_id (by omega) (by omega)]; omega
        rw [en, Int.toNat_natCast]
        refine cond_t rfl ⟨hin, hin, ⟨by omega, by omega⟩, hf _, ?_⟩
        rw [← e]
        exact_mod_cast ih
      | false =>
        have e : ver rows[i] = (rows[i]).2.1 := by unfold ver; rw [hc]; rfl
        refine cond_f rfl ⟨hf _, ?_⟩
        rw [← e]
        exact_mod_cast ih
    · obtain rfl : i = rows.length := by omega
      rw [List.take_length]
      exact cond_f (by simp) hK

theorem falls_nil (n : Nat) : Falls n [] := ⟨List.Pairwise.nil, fun e he => absurd he List.not_mem_nil⟩

theorem j3_bad {n : Int} {P : Par} {es : List Ev} {l : List Row} {c ix : Int} {v : List Int} (hc : c ≠ 0) (hl : l = []) (hv : v = []) {K : Bool → Prop} (hK : K true) :
    L.law8_RolloutFunctionsMatchSpec_J3 n P.need P.mille es P.g P.b l c ix v c ix c ix K := by
  subst hl hv
  refine ⟨⟨⟨1, ?_⟩⟩⟩
  refine cond_f ?_ (cond_t (bne_iff_ne.2 hc) ?_)
  · rw [beq_eq_false_iff_ne.2 hc]
    cases decide ((0 : Int) < (es.length : Int)) <;> rfl
  · simpa using hK

theorem spec_true (n : Int) (P : Par) (es : List Ev) (K : Bool → Prop) (hK : K true) : L.law8_RolloutFunctionsMatchSpec n P.g P.b P.need P.mille es K := by
  refine ⟨run_ok (versions_ok (example_ok (cond_f rfl ?_)))⟩
  have bad : ∀ x : Int, run n P es = (3, (x, [])) → L.ref8_Fault 3 x (fun rCode1 rIndex1 => L.law8_RolloutFunctionsMatchSpec_J3 n P.need P.mille es P.g P.b (run n P es).2.2 (run n P es).1 (run n P es).2.1 ((run n P es).2.2.map ver) (run n P es).1 (run n P es).2.1 rCode1 rIndex1 K) := by
    intro x e
    rw [e]
    exact Can.Fault_ok (j3_bad (c := 3) (by decide) rfl rfl hK)
  by_cases h1 : n < 1 ∨ n > 5
  · refine cond_t (by simp; omega) (bad _ ?_)
    unfold run
    rw [if_pos h1]
  refine cond_f (by simp; omega) ?_
  by_cases c1 : okC P.g P.b
  · refine Can.CountsValid_ok c1 ?_
    by_cases h2 : 0 ≤ P.need ∧ P.need ≤ 25 ∧ 0 ≤ P.mille ∧ P.mille < 1000
    · refine cond_f (by simp; omega) ?_
      have hP : P.ok := ⟨c1, h2⟩
      by_cases h3 : es.length > 40
      · refine cond_t (by simp; omega) (Can.Fault_ok ?_)
        have e : run n P es = (2, (-1, [])) := by
          unfold run
          rw [if_neg h1, if_neg (fun h => h ⟨c1, h2⟩), if_pos h3]
        rw [e]
        exact j3_bad (c := 2) (by decide) rfl rfl hK
      · refine cond_f (by simp; omega) ?_
        obtain ⟨m, rfl⟩ : ∃ m : Nat, n = m := ⟨n.toNat, by omega⟩
        have e : run m P es = go P es 0 (rows m []) := by
          unfold run
          rw [if_neg h1, if_neg (fun h => h ⟨c1, h2⟩), if_neg h3, rows_nil, Int.toNat_natCast]
        refine ⟨⟨⟨es.length + 2, ?_⟩⟩⟩
        have := ev_loop (n := m) (by omega) (by omega) hP (es := es) (by omega) (c := (run m P es).1) (ix := (run m P es).2.1) (rs := (run m P es).2.2)
          (K := fun w2 w3 d d1 d2 d3 d4 d5 d6 d7 => (bif (w2 != 0) then K (bif (bif (bif (((run m P es).1 == w2) && (((run m P es).2.1 == w3) && true)) then (((run m P es).1 == w2) && (((run m P es).2.1 == w3) && true)) else false) then (((run m P es).2.2.length : Int) == 0) else false) then ((((run m P es).2.2.map ver).length : Int) == 0) else false) else L.ref8_Deployment_State_h16 d d1 d2 d3 d4 d5 d6 d7 (fun r5 => L.law8_RolloutFunctionsMatchSpec_L2 r5 0 ([] : List Int) (fun want => (bif (bif ((run m P es).1 == 0) then ((run m P es).1 == 0) else false) then L.ref8_EqualRings (run m P es).2.2 r5 (fun r6 => (bif (bif true then r6 else false) then L.ref8_EqualInts ((run m P es).2.2.map ver) want (fun r7 => K (bif true then r7 else false)) else K false)) else K false)))))
          (fun t hc ht hf htl => by
            obtain ⟨r1, r2, r3, r4, r5, r6, r7⟩ := run_good hc
            refine cond_f rfl (state_ok (by omega) htl hf ?_)
            rw [← ht]
            generalize (run m P es).2.2 = rs at *
            refine ⟨⟨rs.length + 1, ?_⟩⟩
            have := want_loop (rows := rs) (by omega) (fun r hr => (r4 r hr).1) (K := fun want => (bif (bif ((run m P es).1 == 0) then ((run m P es).1 == 0) else false) then L.ref8_EqualRings rs rs (fun r6 => (bif (bif true then r6 else false) then L.ref8_EqualInts (rs.map ver) want (fun r7 => K (bif true then r7 else false)) else K false)) else K false)) (by
              rw [hc]
              exact cond_t rfl (eqr_ok (by omega) (fun r hr => by have := (r4 r hr).1; omega) (cond_t rfl (eqi_ok (by simp; omega) hK)))) (rs.length + 1) 0 (by omega) (by omega)
            exact_mod_cast this)
          (fun t hc => by
            refine cond_t (bne_iff_ne.2 hc) ?_
            rw [run_bad hc]
            simpa using hK) (es.length + 2) 0 [] (falls_nil m) (by simp) (by omega) (by omega) (by rw [List.drop_zero, ← show ((0 : Nat) : Int) = 0 from rfl] at *; rw [← e])
        exact_mod_cast this
    · refine cond_t (by simp; omega) (bad _ ?_)
      unfold run
      rw [if_neg h1, if_pos (fun h => h2 h.2)]
  · refine Can.CountsValid_bad c1 (cond_t (by simp) (bad _ ?_))
    unfold run
    rw [if_neg h1, if_pos (fun h => c1 h.1)]

end Ro

theorem RolloutFunctionsMatchSpec_true (xs : ArgDen [(false, (.int .i64)), (true, (.pair (.int .i64) (.int .i64))), (false, (.int .i64)), (false, (.int .i64)), (false, (.slice (.pair (.int .i64) (.pair (.int .i64) (.pair (.int .i64) (.pair (.int .i64) (.int .i64)))))))]) (_ : WfAll _ xs) (K : Bool → Prop) (hK : K true) : L.law8_RolloutFunctionsMatchSpec xs.1 xs.2.1.1 xs.2.1.2 xs.2.2.1 xs.2.2.2.1 xs.2.2.2.2.1 K :=
  Ro.spec_true xs.1 ⟨xs.2.1.1, xs.2.1.2, xs.2.2.1, xs.2.2.2.1⟩ xs.2.2.2.2.1 K hK

end Go.Proofs.Ytgedmbndmdphdaa

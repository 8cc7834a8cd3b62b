/-
  What an event computes, and a run. Conditions: none.
-/
import Derived.Test.YtgedmbndmdphdaaRoS
namespace Go.Proofs.Ytgedmbndmdphdaa
open Eng
namespace Ro
open Can (okC okC_nat)

theorem cidx_loop {xs : List Int} {v : Int} (hb : xs.length < 4611686018427387904) {K : Int → Prop} (h1 : v ∉ xs → K (-1))
    (h2 : ∀ j : Nat, v ∈ xs → K j) : ∀ (fu i : Nat), i ≤ xs.length → xs.length - i < fu → v ∉ xs.take i → L.slices_Index_L1_R xs v xs.length fu i (K (-1)) K
  | 0, i, _, h, _ => by omega
  | fu + 1, i, hi, h, hn => by
    show L.slices_Index_L1_b xs v xs.length i _ (K (-1)) K
    unfold L.slices_Index_L1_b
    rcases Nat.lt_or_ge i xs.length with g | g
    · refine cond_t (by simp; omega) ⟨⟨by omega, by omega⟩, ?_⟩
      rw [Int.toNat_natCast]
      by_cases hv : v = xs.getD i 0
      · refine cond_t (beq_iff_eq.2 hv) (h2 i ?_)
        rw [hv, getD_get _ _ _ g]
        exact List.getElem_mem g
      · refine cond_f (beq_eq_false_iff_ne.2 hv) ?_
        rw [i64_id (by omega) (by omega)]
        have := cidx_loop hb h1 h2 fu (i + 1) g (by omega) (fun hx => by
          rw [List.take_add_one, List.mem_append] at hx
          rcases hx with hx | hx
          · exact hn hx
          · rw [List.getElem?_eq_getElem g] at hx
            simp only [Option.toList_some, List.mem_singleton] at hx
            rw [getD_get _ _ _ g] at hv
            exact hv hx)
        exact_mod_cast this
    · obtain rfl : i = xs.length := by omega
      rw [List.take_length] at hn
      exact cond_f (by simp) (h1 hn)

theorem contains_ok {xs : List Int} {v : Int} (hb : xs.length < 4611686018427387904) {K : Bool → Prop} (hK : K (decide (v ∈ xs))) : L.slices_Contains xs v K := by
  refine ⟨⟨⟨⟨xs.length + 1, ?_⟩⟩⟩⟩
  have := cidx_loop (K := fun r => K (decide (r ≥ 0))) hb (fun h => by rw [decide_eq_false h] at hK; exact hK) (fun j h => by
    rw [decide_eq_true h] at hK
    show K (decide ((j : Int) ≥ 0))
    rw [decide_eq_true (by omega)]
    exact hK) (xs.length + 1) 0 (by omega) (by omega) (by simp)
  exact_mod_cast this

/-- A ring knows a version. -/
def kr (v : Int) (r : Row) : Bool := (r.2.1 == v && v != 0) || decide (v ∈ r.1)

theorem kr_ok {r : Row} {v : Int} (hb : r.1.length < 4611686018427387904) {K : Bool → Prop} (hK : K (kr v r)) : L.rollout_plan_known_1_v14 r.1 r.2.1 r.2.2.1 r.2.2.2 v K := by
  constructor
  unfold L.rollout_plan_known_1_v14_B
  unfold kr at hK
  by_cases h : r.2.1 = v ∧ v ≠ 0
  · have e1 : (r.2.1 == v) = true := beq_iff_eq.2 h.1
    have e2 : (v != 0) = true := bne_iff_ne.2 h.2
    rw [e1, e2] at hK ⊢
    exact hK
  · have e : (r.2.1 == v && v != 0) = false := by
      by_cases h1 : r.2.1 = v
      · have : v = 0 := by
          by_cases h2 : v = 0
          · exact h2
          · exact absurd ⟨h1, h2⟩ h
        simp [this]
      · simp [beq_eq_false_iff_ne.2 h1]
    rw [e] at hK
    have e' : (bif r.2.1 == v then v != 0 else false) = false := by rw [← e]; cases r.2.1 == v <;> rfl
    rw [e']
    exact cond_f rfl (contains_ok hb hK)

theorem kidx_loop {a : List Row} {v : Int} (hal : a.length < 4611686018427387904) (hb : ∀ r, r ∈ a → r.1.length < 4611686018427387904) {K : Int → Prop} (h1 : a.any (kr v) = false → K (-1))
    (h2 : ∀ j : Nat, a.any (kr v) = true → K j) : ∀ (fu i : Nat), i ≤ a.length → a.length - i < fu → (a.take i).any (kr v) = false → L.slices_IndexFunc_v13_L1_R a v a.length fu i (K (-1)) K
  | 0, i, _, h, _ => by omega
  | fu + 1, i, hi, h, hn => by
    show L.slices_IndexFunc_v13_L1_b a v a.length i _ (K (-1)) K
    unfold L.slices_IndexFunc_v13_L1_b
    rcases Nat.lt_or_ge i a.length with g | g
    · refine cond_t (by simp; omega) ⟨⟨by omega, by omega⟩, ?_⟩
      rw [Int.toNat_natCast, getD_get _ _ _ g]
      refine kr_ok (hb _ (List.getElem_mem g)) ?_
      by_cases hv : kr v a[i] = true
      · exact cond_t hv (h2 i (List.any_eq_true.2 ⟨_, List.getElem_mem g, hv⟩))
      · rw [Bool.not_eq_true] at hv
        refine cond_f hv ?_
        rw [i64_id (by omega) (by omega)]
        have := kidx_loop hal hb h1 h2 fu (i + 1) g (by omega) (by
          rw [List.take_add_one, List.any_append, hn, List.getElem?_eq_getElem g]
          simp [hv])
        exact_mod_cast this
    · obtain rfl : i = a.length := by omega
      rw [List.take_length] at hn
      exact cond_f (by simp) (h1 hn)

theorem known_ok {a : List Row} {v : Int} (hal : a.length < 4611686018427387904) (hb : ∀ r, r ∈ a → r.1.length < 4611686018427387904) {p p1 p2 p3 : Int} {K : Bool → Prop} (hK : K (a.any (kr v))) : L.rollout_plan_known a p p1 p2 p3 v K := by
  refine ⟨⟨⟨⟨⟨a.length + 1, ?_⟩⟩⟩⟩⟩
  have := kidx_loop (K := fun r => K (decide (r ≥ 0))) hal hb (fun h => by rw [h] at hK; exact hK) (fun j h => by
    rw [h] at hK
    show K (decide ((j : Int) ≥ 0))
    rw [decide_eq_true (by omega)]
    exact hK) (a.length + 1) 0 (by omega) (by omega) (by simp)
  exact_mod_cast this

abbrev Ev := Int × (Int × (Int × (Int × Int)))

/-- An event. -/
def stp (P : Par) (a : List Row) (e : Ev) : Int × List Row :=
  if fm a.length e.1 e.2.1 e.2.2.1 e.2.2.2.1 e.2.2.2.2 ≠ 0 then (fm a.length e.1 e.2.1 e.2.2.1 e.2.2.2.1 e.2.2.2.2, a)
  else if e.1 = 1 then st a e.2.1
  else if e.1 = 2 then rp P a e.2.2.1.toNat e.2.2.2.1 e.2.2.2.2
  else if e.1 = 3 then ad P a e.2.2.1.toNat
  else if a.any (kr e.2.1) = true then (0, a.map (bk e.2.1)) else (6, a)

theorem fm_zero {n : Nat} {k v r g b : Int} (h : fm n k v r g b = 0) : 1 ≤ k ∧ k ≤ 4 ∧ 0 ≤ r ∧ r < n := by
  unfold fm at h
  split at h
  · omega
  · split at h
    · omega
    · split at h
      · omega
      · omega

theorem step_ok {P : Par} (hP : P.ok) {t : Nat} (ht : t < 1073741823) {a : List Row} {e : Ev} {m : Pool} {hs : List Hrow} (hS : Lay m hs a) (ha : 0 < a.length) (hal : a.length < 4611686018427387904) (hT : Small t a)
    {K : Int → Pool → Int → Int → Int → Int → List Hrow → Prop} (hK : ∀ m' hs', Lay m' hs' (stp P a e).2 → K (stp P a e).1 m' P.g P.b P.need P.mille hs') :
    L.rollout_plan_step_h3 e.1 e.2.1 e.2.2.1 e.2.2.2.1 e.2.2.2.2 m P.g P.b P.need P.mille hs K := by
  have hb : ∀ r, r ∈ a → r.1.length < 4611686018427387904 := fun r hr => by
    have := (hT r hr).1
    omega
  refine ⟨⟨hS.okRows, ?_⟩⟩
  rw [hS.fz]
  refine form_ok ?_
  unfold stp at hK
  by_cases h1 : fm a.length e.1 e.2.1 e.2.2.1 e.2.2.2.1 e.2.2.2.2 ≠ 0
  · simp only [if_pos h1] at hK
    exact cond_t (bne_iff_ne.2 h1) (hK m hs hS)
  rw [if_neg h1] at hK
  obtain ⟨f1, f2, f3, f4⟩ := fm_zero (show fm a.length e.1 e.2.1 e.2.2.1 e.2.2.2.1 e.2.2.2.2 = 0 by omega)
  refine cond_f (by rw [bne_eq_false_iff_eq]; omega) ?_
  by_cases h2 : e.1 = 1
  · rw [if_pos h2] at hK
    refine cond_t (beq_iff_eq.2 h2) (start_ok hS ha ?_ fun hs' h => hK m hs' h)
    have := (hT.at ha).1
    omega
  rw [if_neg h2] at hK
  refine cond_f (beq_eq_false_iff_ne.2 h2) ?_
  have er : e.2.2.1 = (e.2.2.1.toNat : Int) := by omega
  have hr : e.2.2.1.toNat < a.length := by omega
  by_cases h3 : e.1 = 2
  · rw [if_pos h3] at hK
    refine cond_t (beq_iff_eq.2 h3) ?_
    rw [er]
    exact report_ok hP (by omega) hS hal hr hT hK
  rw [if_neg h3] at hK
  refine cond_f (beq_eq_false_iff_ne.2 h3) ?_
  by_cases h4 : e.1 = 3
  · rw [if_pos h4] at hK
    refine cond_t (beq_iff_eq.2 h4) ?_
    rw [er]
    exact advance_ok hP ht hS hal hr hT hK
  rw [if_neg h4] at hK
  refine cond_f (beq_eq_false_iff_ne.2 h4) ⟨hS.okRows, ?_⟩
  refine known_ok hal hb ?_
  by_cases h5 : a.any (kr e.2.1) = true
  · simp only [if_pos h5] at hK
    rw [h5]
    exact cond_f rfl (back_ok hS hal hb fun m' hs' h => hK m' hs' h)
  · simp only [if_neg h5] at hK
    rw [Bool.not_eq_true] at h5
    rw [h5]
    exact cond_t rfl (hK m hs hS)

/-- What an event leaves is small. -/
theorem del_mem {v x : Int} {xs : List Int} : x ∈ del v xs ↔ x ∈ xs ∧ x ≠ v := by
  simp [del, List.mem_filter]

theorem Small.back {t : Nat} {a : List Row} (h : Small t a) (v : Int) : Small t (a.map (bk v)) := fun r hr => by
  obtain ⟨r0, h0, rfl⟩ := List.mem_map.1 hr
  obtain ⟨h1, h2⟩ := h r0 h0
  refine ⟨Nat.le_trans (del_le v r0.1) h1, ?_⟩
  unfold bk
  cases r0.2.1 == v
  · exact h2
  · exact ⟨by simp, by simp, by simp⟩

theorem Small.more {t : Nat} {a : List Row} (h : Small t a) : Small (t + 1) a := fun r hr => ⟨Nat.le_succ_of_le (h r hr).1, (h r hr).2⟩

theorem stp_small {P : Par} {t : Nat} {a : List Row} {e : Ev} (ha : 0 < a.length) (hT : Small t a) : Small (t + 1) (stp P a e).2 ∧ (stp P a e).2.length = a.length := by
  have z : okC 0 0 := ⟨by omega, by omega, by omega⟩
  unfold stp
  split
  · exact ⟨hT.more, rfl⟩
  next h1 =>
  obtain ⟨f1, f2, f3, f4⟩ := fm_zero (show fm a.length e.1 e.2.1 e.2.2.1 e.2.2.2.1 e.2.2.2.2 = 0 by omega)
  have hr : e.2.2.1.toNat < a.length := by omega
  split
  · unfold st
    split
    · exact ⟨hT.more, rfl⟩
    split
    · exact ⟨hT.more, rfl⟩
    split
    · exact ⟨hT.more, rfl⟩
    · exact ⟨hT.more.set ⟨(hT.more.at ha).1, z⟩, by simp⟩
  split
  · generalize e.2.2.1.toNat = i at hr
    have hi := hT.more.at hr
    unfold rp
    split
    · exact ⟨hT.more, rfl⟩
    next g1 =>
    split
    · exact ⟨hT.more, rfl⟩
    split
    · exact ⟨hT.more, rfl⟩
    next g3 =>
    have hc := hi.2
    unfold Can.okC at hc
    have hn : Small (t + 1) (a.set i ((List.getD a i ([], (0, (0, 0)))).1, ((List.getD a i ([], (0, (0, 0)))).2.1, ((List.getD a i ([], (0, (0, 0)))).2.2.1 + e.2.2.2.1, (List.getD a i ([], (0, (0, 0)))).2.2.2 + e.2.2.2.2)))) := hT.more.set ⟨hi.1, by unfold Can.okC; simp only; omega⟩
    split
    · exact ⟨hn.back _, by simp⟩
    · exact ⟨hn, by simp⟩
  split
  · generalize e.2.2.1.toNat = i at hr
    have hi := hT.at hr
    have hn : Small (t + 1) (a.set i ((List.getD a i ([], (0, (0, 0)))).1 ++ [(List.getD a i ([], (0, (0, 0)))).2.1], (0, (0, 0)))) := hT.more.set ⟨by simp; exact hi.1, z⟩
    unfold ad
    split
    · exact ⟨hT.more, rfl⟩
    split
    · exact ⟨hT.more, rfl⟩
    split
    next hn1 => exact ⟨hn.set ⟨(hT.more.at hn1).1, z⟩, by simp⟩
    · exact ⟨hn, by simp⟩
  split
  · exact ⟨hT.more.back _, by simp⟩
  · exact ⟨hT.more, rfl⟩

/-- Events. -/
def go (P : Par) : List Ev → Int → List Row → Int × (Int × List Row)
  | [], _, a => (0, (0, a))
  | e :: es, i, a => if (stp P a e).1 ≠ 0 then ((stp P a e).1, (i, [])) else go P es (i + 1) (stp P a e).2

theorem run_loop {P : Par} (hP : P.ok) {es : List Ev} (hes : es.length ≤ 40) {K1 : Pool → List Hrow → Int → Int → Int → Int → Prop} {K2 : Pool → Int → Int → List Hrow → Int → Int → Int → Int → Prop} {rs : List Row} {c ix : Int}
    (hK1 : ∀ m hs, c = 0 → ix = 0 → Lay m hs rs → K1 m hs P.g P.b P.need P.mille) (hK2 : ∀ m hs, c ≠ 0 → rs = [] → K2 m c ix hs P.g P.b P.need P.mille) :
    ∀ (fu i : Nat) (m : Pool) (hs : List Hrow) (a : List Row), Lay m hs a → 0 < a.length → a.length ≤ 5 → Small i a → i ≤ es.length → es.length - i < fu → go P (es.drop i) i a = (c, (ix, rs)) →
    L.rollout_Run_h1_L1_R es es.length fu i m hs P.g P.b P.need P.mille K1 K2
  | 0, i, m, hs, a, _, _, _, _, _, h, _ => by omega
  | fu + 1, i, m, hs, a, hS, ha, hal, hT, hi, h, hgo => by
    show L.rollout_Run_h1_L1_b es es.length i m hs P.g P.b P.need P.mille _ K1 K2
    unfold L.rollout_Run_h1_L1_b
    rcases Nat.lt_or_ge i es.length with g | g
    · refine cond_t (by simp; omega) ⟨⟨by omega, by omega⟩, ?_⟩
      rw [Int.toNat_natCast, getD_get _ _ _ g]
      rw [List.drop_eq_getElem_cons g] at hgo
      refine step_ok hP (t := i) (by omega) hS ha (by omega) hT fun m' hs' hS' => ?_
      obtain ⟨s1, s2⟩ := stp_small (P := P) (e := es[i]) ha hT
      unfold go at hgo
      by_cases hc : (stp P a es[i]).1 ≠ 0
      · rw [if_pos hc] at hgo
        cases hgo
        exact cond_t (bne_iff_ne.2 hc) (hK2 _ _ hc rfl)
      · rw [if_neg hc] at hgo
        refine cond_f (by rw [bne_eq_false_iff_eq]; omega) ?_
        rw [i64_id (by omega) (by omega)]
        have := run_loop hP hes hK1 hK2 fu (i + 1) m' hs' _ hS' (by omega) (by omega) s1 g (by omega) (by exact_mod_cast hgo)
        exact_mod_cast this
    · obtain rfl : i = es.length := by omega
      rw [List.drop_length] at hgo
      cases hgo
      exact cond_f (by simp) (hK1 m hs rfl rfl hS)

instance (g b : Int) : Decidable (okC g b) := inferInstanceAs (Decidable (0 ≤ g ∧ 0 ≤ b ∧ g + b ≤ 25))

/-- A run. -/
def run (n : Int) (P : Par) (es : List Ev) : Int × (Int × List Row) :=
  if n < 1 ∨ n > 5 then (3, (-2, []))
  else if ¬ (okC P.g P.b ∧ 0 ≤ P.need ∧ P.need ≤ 25 ∧ 0 ≤ P.mille ∧ P.mille < 1000) then (3, (-3, []))
  else if es.length > 40 then (2, (-1, []))
  else go P es 0 (List.replicate n.toNat ([], (0, (0, 0))))

theorem lay_new (n : Nat) : Lay [] (List.replicate n (Hd.nil, (0, (0, 0)))) (List.replicate n ([], (0, (0, 0)))) := by
  refine ⟨by simp, fun i hi => ?_, fun i j hi hj _ b => ?_⟩
  · have hi' : i < n := by simpa using hi
    rw [getD_get _ _ _ (by simpa using hi'), getD_get _ _ _ (by simpa using hi')]
    simp only [List.getElem_replicate]
    exact ⟨Lies.nil _, trivial⟩
  · have hi' : i < n := by simpa using hi
    rw [getD_get _ _ _ (by simpa using hi')]
    simp only [List.getElem_replicate]
    intro h
    simp [blk, Hd.nil] at h

theorem run_ok {n : Int} {P : Par} {es : List Ev} {K : Int → Int → List Row → Prop} (hK : K (run n P es).1 (run n P es).2.1 (run n P es).2.2) : L.rollout_Run_h1 n P.g P.b P.need P.mille es K := by
  constructor
  unfold L.rollout_Run_h1_B
  unfold run at hK
  by_cases h1 : n < 1 ∨ n > 5
  · rw [if_pos h1] at hK
    exact cond_t (by simp; omega) hK
  rw [if_neg h1] at hK
  refine cond_f (by simp; omega) ?_
  have z : okC 0 0 := ⟨by omega, by omega, by omega⟩
  by_cases h2 : okC P.g P.b ∧ 0 ≤ P.need ∧ P.need ≤ 25 ∧ 0 ≤ P.mille ∧ P.mille < 1000
  · rw [if_neg (fun h => h h2)] at hK
    have hP : P.ok := h2
    obtain ⟨c1, c2, c3, c4, c5⟩ := h2
    obtain ⟨g1, b1, e1, e2, hs1⟩ := okC_nat c1
    have hd := fun (K : Int → Int → Int → Prop) (hK : ∀ r, K r 0 0) => Can.Decide_ok g1 b1 0 0 P.need P.mille hs1 (by omega) c2 c3 c4 c5 (K := K) (hK _)
    rw [← e1, ← e2] at hd
    refine hd _ fun r => cond_f rfl ?_
    by_cases h3 : es.length > 40
    · rw [if_pos h3] at hK
      exact cond_t (by simp; omega) hK
    · rw [if_neg h3] at hK
      refine cond_f (by simp; omega) ?_
      have main : (0 ≤ n ∧ n ≤ n ∧ n ≤ 1073741824) ∧ L.rollout_Run_h1_J1 es [] (List.replicate n.toNat ((Hd.nil, (0, (0, 0))) : (Hd × (Int × (Int × Int))))) P.g P.b P.need P.mille (fun m r1 m1 m2 => (okRows m TT r1) ∧ K m1 m2 (List.map (fz m TT) r1)) := by
        refine ⟨⟨by omega, by omega, by omega⟩, ⟨⟨⟨es.length + 1, ?_⟩⟩⟩⟩
        have := run_loop hP (es := es) (by omega) (rs := (go P es 0 (List.replicate n.toNat ([], (0, (0, 0))))).2.2) (c := (go P es 0 (List.replicate n.toNat ([], (0, (0, 0))))).1) (ix := (go P es 0 (List.replicate n.toNat ([], (0, (0, 0))))).2.1)
          (K1 := fun m m5 p4 p5 p6 p7 => (okRows m TT m5) ∧ K 0 0 (List.map (fz m TT) m5)) (K2 := fun m6 m7 m8 m9 p8 p9 p10 p11 => (okRows m6 TT ([] : List Hrow)) ∧ K m7 m8 (List.map (fz m6 TT) ([] : List Hrow)))
          (fun m hs e1 e2 hS => by
            rw [e1, e2] at hK
            exact ⟨hS.okRows, by rw [hS.fz]; exact hK⟩)
          (fun m hs e1 e2 => by
            rw [e2] at hK
            refine ⟨?_, hK⟩
            intro x hx
            cases hx)
          (es.length + 1) 0 [] _ _ (lay_new n.toNat) (by simp; omega) (by simp; omega) (fun r hr => by
            rw [List.eq_of_mem_replicate hr]
            exact ⟨Nat.le_refl _, z⟩) (by omega) (by omega) rfl
        exact_mod_cast this
      exact ⟨main, main⟩
  · rw [if_pos h2] at hK
    by_cases c1 : okC P.g P.b
    · refine Can.Decide_bad3 c1 z (fun h => h2 ⟨c1, by omega, by omega, by omega, by omega⟩) (cond_t rfl hK)
    · exact Can.Decide_bad1 c1 (cond_t rfl hK)

end Ro
end Go.Proofs.Ytgedmbndmdphdaa

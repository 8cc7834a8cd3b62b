/-
  The reference's event on its three lists is the event on the list of versions. Conditions: none.
-/
import Derived.Test.YtgedmbndmdphdaaRoQ
import Derived.Test.YtgedmbndmdphdaaRoD
namespace Go.Proofs.Ytgedmbndmdphdaa
open Eng
namespace Ro
open Can (okC okC_nat)

theorem map_erase {α β} (f : α → β) : ∀ (l : List α) (k : Nat), (l.map f).eraseIdx k = (l.eraseIdx k).map f
  | [], k => by simp
  | x :: l, 0 => by simp
  | x :: l, k + 1 => by simp [map_erase f l k]

theorem erase_filter {n : Nat} : ∀ {t : List Ent}, Falls n t → ∀ {k : Nat}, k < t.length → t.eraseIdx k = t.filter fun x => !(x.1 == (t.getD k e0).1)
  | [], _, k, hk => by simp at hk
  | x :: t, hf, 0, _ => by
    have hp := (List.pairwise_cons.1 hf.pw).1
    rw [List.eraseIdx_cons_zero, List.getD_cons_zero, List.filter_cons, if_neg (by simp)]
    refine (List.filter_eq_self.2 fun e he => ?_).symm
    have := (hp e he).1
    simp
    omega
  | x :: t, hf, k + 1, hk => by
    have hp := (List.pairwise_cons.1 hf.pw).1
    have hk' : k < t.length := by simpa using hk
    have hm : t.getD k e0 ∈ t := by rw [getD_get _ _ _ hk']; exact List.getElem_mem hk'
    have := (hp _ hm).1
    have hne : (x.1 == (t.getD k e0).1) = false := beq_eq_false_iff_ne.2 (by omega)
    rw [List.eraseIdx_cons_succ, List.getD_cons_succ, List.filter_cons, hne, Bool.not_false, if_pos rfl, erase_filter hf.tail hk']

theorem map_one {n r : Nat} (hr : r < n) (f : Ent → Ent) {t : List Ent} (hf : Falls n t) {j : Nat} (hj : j < t.length) (he : (t.getD j e0).2.1 = r) :
    (t.map fun e => if e.2.1 = r then f e else e) = t.set j (f (t.getD j e0)) := by
  apply List.ext_getElem
  · simp
  · intro q h1 h2
    have hq : q < t.length := by simpa using h1
    rw [List.getElem_map, List.getElem_set]
    have eg := getD_get t j e0 hj
    rw [eg] at he
    by_cases e : j = q
    · subst e
      rw [if_pos he, if_pos rfl, eg]
    · rw [if_neg e, if_neg]
      rcases Nat.lt_or_ge j q with g | g
      · have := (List.pairwise_iff_getElem.1 hf.pw j q hj hq g).2
        omega
      · have := (List.pairwise_iff_getElem.1 hf.pw q j hq hj (by omega)).2
        omega

theorem set_same {α} (l : List α) {j : Nat} (d : α) (h : j < l.length) : l.set j (l.getD j d) = l := by
  rw [getD_get _ _ _ h, List.set_getElem_self]

theorem vsT_set {t : List Ent} {j : Nat} (hj : j < t.length) (x : Nat × (Int × Int)) : vsT (t.set j ((t.getD j e0).1, x)) = vsT t := by
  unfold vsT
  rw [List.map_set]
  have := set_same (t.map (·.1)) (j := j) 0 (by simpa using hj)
  rw [show (t.map (·.1)).getD j 0 = (t.getD j e0).1 from vsT_get hj] at this
  exact this

theorem rsT_set {t : List Ent} {j : Nat} (v : Int) (r : Nat) (c : Int × Int) : rsT (t.set j (v, (r, c))) = (rsT t).set j (r : Int) := by
  unfold rsT
  rw [List.map_set]

theorem csT_set {t : List Ent} {j : Nat} (v : Int) (r : Nat) (c : Int × Int) : csT (t.set j (v, (r, c))) = (csT t).set j c := by
  unfold csT
  rw [List.map_set]

theorem rsT_keep {t : List Ent} {j r : Nat} (hj : j < t.length) (he : (t.getD j e0).2.1 = r) : (rsT t).set j (r : Int) = rsT t := by
  have := set_same (rsT t) (j := j) 0 (by rw [rsT_len]; exact hj)
  rw [rsT_get hj, he] at this
  exact this

theorem verdict_P {P : Par} (hP : P.ok) {g b : Int} (h : okC g b) {K : Int → Prop} (hK : K (vd P g b)) : L.ref8_Verdict P.g P.b g b P.need P.mille K := by
  obtain ⟨pg, pb, n, m⟩ := P
  obtain ⟨h1, h2, h3, h4, h5⟩ := hP
  simp only at h1 h2 h3 h4 h5
  obtain ⟨g1, b1, rfl, rfl, hs1⟩ := okC_nat h1
  obtain ⟨g2, b2, rfl, rfl, hs2⟩ := okC_nat h
  simp only [vd, Int.toNat_natCast] at hK
  exact Can.Verdict_ok g1 b1 g2 b2 n m hs1 hs2 h4 h5 hK

theorem active_T {t : List Ent} {r : Nat} (ht : t.length ≤ 40) {p p1 p2 p3 p4 : Int} {K : Int → Prop} (h1 : atR r t = false → K (-1))
    (h2 : ∀ j : Nat, j < t.length → (t.getD j e0).2.1 = r → K j) : L.ref8_Deployment_Active p p1 p2 p3 p4 (vsT t) (rsT t) (csT t) r K := by
  refine active_ok (by rw [rsT_len, vsT_len]) (by rw [vsT_len]; exact ht) (fun hn => h1 (atR_not.2 fun e he hr => hn ?_)) (fun i hi hr _ => ?_)
  · rw [← hr]
    exact List.mem_map.2 ⟨e, he, rfl⟩
  · rw [rsT_len] at hi
    rw [rsT_get hi] at hr
    exact h2 i hi (by exact_mod_cast hr)

theorem active_C {t : List Ent} {r : Nat} (ht : t.length ≤ 40) {p p1 p2 p3 p4 : Int} {K : Int → Prop}
    (h : ∀ a : Int, ((a = -1 ∧ atR r t = false) ∨ ∃ j : Nat, a = j ∧ j < t.length ∧ (t.getD j e0).2.1 = r) → K a) : L.ref8_Deployment_Active p p1 p2 p3 p4 (vsT t) (rsT t) (csT t) r K :=
  active_T ht (fun hn => h _ (.inl ⟨rfl, hn⟩)) fun j hj he => h _ (.inr ⟨j, rfl, hj, he⟩)

theorem drop_T {t : List Ent} (ht : t.length ≤ 40) {j : Nat} {p p1 p2 p3 p4 : Int} {K : Int → Int → Int → Int → Int → List Int → List Int → List (Int × Int) → Prop}
    (hK : K p p1 p2 p3 p4 (vsT (t.eraseIdx j)) (rsT (t.eraseIdx j)) (csT (t.eraseIdx j))) : L.ref8_Deployment_Drop p p1 p2 p3 p4 (vsT t) (rsT t) (csT t) j K := by
  refine drop_ok (k' := j) (by rw [rsT_len, vsT_len]) (by rw [csT_len, vsT_len]) (by rw [vsT_len]; exact ht) (fun i _ => by omega) ?_
  unfold vsT rsT csT at *
  rw [map_erase, map_erase, map_erase]
  exact hK

theorem drop_none {t : List Ent} (ht : t.length ≤ 40) {p p1 p2 p3 p4 : Int} {K : Int → Int → Int → Int → Int → List Int → List Int → List (Int × Int) → Prop}
    (hK : K p p1 p2 p3 p4 (vsT t) (rsT t) (csT t)) : L.ref8_Deployment_Drop p p1 p2 p3 p4 (vsT t) (rsT t) (csT t) (-1) K := by
  refine drop_ok (k' := t.length) (by rw [rsT_len, vsT_len]) (by rw [csT_len, vsT_len]) (by rw [vsT_len]; exact ht) (fun i hi => by rw [vsT_len] at hi; omega) ?_
  rw [List.eraseIdx_of_length_le (by rw [vsT_len]; exact Nat.le_refl _), List.eraseIdx_of_length_le (by rw [rsT_len]; exact Nat.le_refl _), List.eraseIdx_of_length_le (by rw [csT_len]; exact Nat.le_refl _)]
  exact hK

abbrev KR := Int → Int → Int → Int → Int → Int → List Int → List Int → List (Int × Int) → Prop

theorem abort_loop {n : Nat} {P : Par} {t : List Ent} (hf : Falls n t) (ht : t.length ≤ 40) {v : Int} {Kx : Prop} {Kr : KR} (h1 : t.any (fun x => x.1 == v) = false → Kx)
    (h2 : t.any (fun x => x.1 == v) = true → Kr 0 n P.g P.b P.need P.mille (vsT (t.filter fun x => !(x.1 == v))) (rsT (t.filter fun x => !(x.1 == v))) (csT (t.filter fun x => !(x.1 == v)))) :
    ∀ (fu i : Nat), i ≤ t.length → t.length - i < fu → (t.take i).any (fun x => x.1 == v) = false → L.ref8_Deployment_Step_h15_L1_R n P.g P.b P.need P.mille (vsT t) (rsT t) (csT t) v fu i Kx Kr
  | 0, i, _, h, _ => by omega
  | fu + 1, i, hi, h, hn => by
    show L.ref8_Deployment_Step_h15_L1_b n P.g P.b P.need P.mille (vsT t) (rsT t) (csT t) v i _ Kx Kr
    unfold L.ref8_Deployment_Step_h15_L1_b
    rcases Nat.lt_or_ge i t.length with g | g
    · refine cond_t (by rw [vsT_len]; simp; omega) ⟨⟨by omega, by rw [vsT_len]; omega⟩, ?_⟩
      rw [Int.toNat_natCast, vsT_get g]
      by_cases hv : (t.getD i e0).1 = v
      · refine cond_t (beq_iff_eq.2 hv) (drop_T ht ?_)
        rw [erase_filter hf g, hv]
        refine h2 (List.any_eq_true.2 ⟨t.getD i e0, ?_, beq_iff_eq.2 hv⟩)
        rw [getD_get _ _ _ g]
        exact List.getElem_mem g
      · refine cond_f (beq_eq_false_iff_ne.2 hv) ?_
        rw [i64_id (by omega) (by omega)]
        have := abort_loop hf ht h1 h2 fu (i + 1) g (by omega) (by
          rw [take_snoc g, List.any_append, hn]
          simp only [List.any_cons, List.any_nil, Bool.or_false, Bool.false_or]
          exact beq_eq_false_iff_ne.2 hv)
        exact_mod_cast this
    · obtain rfl : i = t.length := by omega
      rw [List.take_length] at hn
      exact cond_f (by rw [vsT_len]; simp) (h1 hn)

theorem j4_report {n : Nat} {P : Par} (hP : P.ok) {t : List Ent} (hf : Falls n t) (ht : t.length ≤ 40) {r : Nat} (hr : r < n) {g b : Int} (hg : okC g b) {k : Int} {Kr : KR}
    (hk : (k = -1 ∧ atR r t = false) ∨ ∃ j : Nat, k = j ∧ j < t.length ∧ (t.getD j e0).2.1 = r) {R : Int × List Ent}
    (hR : R = if atR r t = false then (11, t) else if (act r t).2.1 + g + ((act r t).2.2 + b) > 25 then (10, t)
      else if vd P ((act r t).2.1 + g) ((act r t).2.2 + b) = 3 then (0, t.filter fun x => !(x.1 == (act r t).1)) else (0, upd r ((act r t).2.1 + g, (act r t).2.2 + b) t))
    (hK : Kr R.1 n P.g P.b P.need P.mille (vsT R.2) (rsT R.2) (csT R.2)) : L.ref8_Deployment_Step_h15_J4 k n P.g P.b P.need P.mille (vsT t) (rsT t) (csT t) 2 r g b Kr := by
  constructor
  unfold L.ref8_Deployment_Step_h15_J4_B
  rcases hk with ⟨rfl, hk⟩ | ⟨j, rfl, hj, he⟩
  · rw [if_pos hk] at hR
    subst hR
    exact cond_t rfl hK
  · have hm : t.getD j e0 ∈ t := by rw [getD_get _ _ _ hj]; exact List.getElem_mem hj
    have ha := act_of hr hf hm he
    have h0 : ¬ atR r t = false := by rw [Bool.not_eq_false, atR_iff]; exact ⟨_, hm, he⟩
    have hc := act_okC (i := r) hf
    rw [if_neg h0] at hR
    have hb : inB (j : Int) (csT t).length := ⟨by omega, by rw [csT_len]; omega⟩
    refine cond_f (by simp) (drop_none ht (cond_t rfl ⟨hb, hb, ?_⟩))
    rw [Int.toNat_natCast, csT_get hj, show (t.getD j e0).2.2 = (act r t).2 from by rw [ha]]
    unfold Can.okC at hc hg
    rw [i64_id (by omega) (by omega), i64_id (by omega) (by omega)]
    by_cases h3 : (act r t).2.1 + g + ((act r t).2.2 + b) > 25
    · rw [if_pos h3] at hR
      subst hR
      exact Can.CountsValid_bad (by unfold Can.okC; omega) (cond_t rfl hK)
    · rw [if_neg h3] at hR
      have hs : okC ((act r t).2.1 + g) ((act r t).2.2 + b) := by unfold Can.okC; omega
      refine Can.CountsValid_ok hs (cond_f rfl ⟨hb, verdict_P hP hs ?_⟩)
      by_cases h4 : vd P ((act r t).2.1 + g) ((act r t).2.2 + b) = 3
      · rw [if_pos h4] at hR
        subst hR
        refine cond_t (beq_iff_eq.2 h4) (drop_T ht ?_)
        rw [erase_filter hf hj, show (t.getD j e0).1 = (act r t).1 from by rw [ha]]
        exact hK
      · rw [if_neg h4] at hR
        subst hR
        refine cond_f (beq_eq_false_iff_ne.2 h4) ?_
        have hu : upd r ((act r t).2.1 + g, (act r t).2.2 + b) t = t.set j ((t.getD j e0).1, (r, ((act r t).2.1 + g, (act r t).2.2 + b))) := by
          unfold upd
          rw [map_one hr (fun e => (e.1, (e.2.1, ((act r t).2.1 + g, (act r t).2.2 + b)))) hf hj he, he]
        simp only [] at hK
        rw [hu, vsT_set hj, rsT_set, csT_set, rsT_keep hj he] at hK
        exact hK

theorem j4_adv {n : Nat} (hn : n ≤ 5) {P : Par} (hP : P.ok) {t : List Ent} (hf : Falls n t) (ht : t.length ≤ 40) {r : Nat} (hr : r < n) {g b : Int} {k : Int} {Kr : KR}
    (hk : (k = -1 ∧ atR r t = false) ∨ ∃ j : Nat, k = j ∧ j < t.length ∧ (t.getD j e0).2.1 = r) {R : Int × List Ent}
    (hR : R = if atR r t = false ∨ vd P (act r t).2.1 (act r t).2.2 ≠ 2 then (11, t) else if r + 1 < n ∧ atR (r + 1) t = true then (15, t) else (0, adv r t))
    (hK : Kr R.1 n P.g P.b P.need P.mille (vsT R.2) (rsT R.2) (csT R.2)) : L.ref8_Deployment_Step_h15_J4 k n P.g P.b P.need P.mille (vsT t) (rsT t) (csT t) 3 r g b Kr := by
  constructor
  unfold L.ref8_Deployment_Step_h15_J4_B
  rcases hk with ⟨rfl, hk⟩ | ⟨j, rfl, hj, he⟩
  · rw [if_pos (.inl hk)] at hR
    subst hR
    exact cond_t rfl hK
  · have hm : t.getD j e0 ∈ t := by rw [getD_get _ _ _ hj]; exact List.getElem_mem hj
    have ha := act_of hr hf hm he
    have h0 : ¬ atR r t = false := by rw [Bool.not_eq_false, atR_iff]; exact ⟨_, hm, he⟩
    have hc := act_okC (i := r) hf
    have hb : inB (j : Int) (csT t).length := ⟨by omega, by rw [csT_len]; omega⟩
    refine cond_f (by simp) (drop_none ht (cond_f rfl ⟨hb, ?_⟩))
    rw [Int.toNat_natCast, csT_get hj, show (t.getD j e0).2.2 = (act r t).2 from by rw [ha]]
    refine verdict_P hP hc ?_
    by_cases h2 : vd P (act r t).2.1 (act r t).2.2 ≠ 2
    · rw [if_pos (.inr h2)] at hR
      subst hR
      exact cond_t (bne_iff_ne.2 h2) hK
    · rw [if_neg (fun h => h.elim h0 h2)] at hR
      refine cond_f (by rw [bne_eq_false_iff_eq]; omega) ?_
      rw [i64_id (by omega) (by omega)]
      -- moving on
      have go : ¬ (r + 1 < n ∧ atR (r + 1) t = true) → L.ref8_Deployment_Step_h15_J3 j r (rsT t) (csT t) n P.g P.b P.need P.mille (fun r8 m6 m7 m8 m9 m10 m11 m12 => Kr r8 m6 m7 m8 m9 m10 (vsT t) m11 m12) := by
        intro hno
        rw [if_neg hno] at hR
        subst hR
        constructor
        unfold L.ref8_Deployment_Step_h15_J3_B
        refine ⟨⟨by omega, by rw [rsT_len]; omega⟩, hb, ?_⟩
        rw [Int.toNat_natCast, i64_id (by omega) (by omega)]
        have hu : adv r t = t.set j ((t.getD j e0).1, (r + 1, (0, 0))) := by
          unfold adv
          rw [map_one hr (fun e => (e.1, (r + 1, (0, 0)))) hf hj he]
        simp only [] at hK
        rw [hu, vsT_set hj, rsT_set, csT_set] at hK
        exact_mod_cast hK
      by_cases hn1 : r + 1 < n
      · refine cond_t (by simp; omega) ?_
        have hcast : ((r : Int) + 1) = ((r + 1 : Nat) : Int) := by omega
        rw [hcast]
        refine active_T ht (fun h => ⟨cond_f rfl (go fun hh => by rw [h] at hh; cases hh.2)⟩) (fun q hq hqe => ⟨?_⟩)
        have hat : atR (r + 1) t = true := atR_iff.2 ⟨t.getD q e0, by rw [getD_get _ _ _ hq]; exact List.getElem_mem hq, hqe⟩
        rw [if_pos ⟨hn1, hat⟩] at hR
        subst hR
        refine cond_t ?_ hK
        simp
      · exact cond_f (by simp; omega) ⟨cond_f rfl (go fun hh => hn1 hh.1)⟩

theorem start_T {n : Nat} {P : Par} {t : List Ent} (ht : t.length < 40) {v k : Int} {Kr : KR} (hk : (k = -1 ∧ atR 0 t = false) ∨ ∃ j : Nat, k = j ∧ j < t.length ∧ (t.getD j e0).2.1 = 0) {R : Int × List Ent}
    (hR : R = if v < 1 ∨ v > 1000000000 then (3, t) else if atR 0 t = true then (15, t) else if t ≠ [] ∧ v ≤ (t.map (·.1)).getD (t.length - 1) 0 then (16, t) else (0, t ++ [(v, (0, (0, 0)))]))
    (hK : Kr R.1 n P.g P.b P.need P.mille (vsT R.2) (rsT R.2) (csT R.2)) :
    (bif (bif (decide (v < 1)) then true else (decide (v > 1000000000))) then Kr 3 n P.g P.b P.need P.mille (vsT t) (rsT t) (csT t) else (bif (decide (k ≥ 0)) then Kr 15 n P.g P.b P.need P.mille (vsT t) (rsT t) (csT t) else
      ((((decide (((vsT t).length : Int) > 0)) == true) = true → inB (i64 (((vsT t).length : Int) - 1)) (vsT t).length)) ∧ (bif (bif (decide (((vsT t).length : Int) > 0)) then (decide (v ≤ ((vsT t).getD ((i64 (((vsT t).length : Int) - 1)).toNat) 0))) else false)
        then Kr 16 n P.g P.b P.need P.mille (vsT t) (rsT t) (csT t) else L.ref8_Deployment_Drop n P.g P.b P.need P.mille (vsT t) (rsT t) (csT t) (-1) (fun rRings rBaseGood rBaseBad rNeed rPerMille rVersions rReached rCounts =>
          (fits (rVersions.length + ([v] : List Int).length)) ∧ (fits (rReached.length + ([0] : List Int).length)) ∧ (fits (rCounts.length + ([(0, 0)] : List (Int × Int)).length)) ∧
          Kr 0 rRings rBaseGood rBaseBad rNeed rPerMille (rVersions ++ ([v] : List Int)) (rReached ++ ([0] : List Int)) (rCounts ++ ([(0, 0)] : List (Int × Int)))))) : Prop) := by
  by_cases h1 : v < 1 ∨ v > 1000000000
  · rw [if_pos h1] at hR
    subst hR
    exact cond_t (by simp; omega) hK
  rw [if_neg h1] at hR
  refine cond_f (by simp; omega) ?_
  rcases hk with ⟨rfl, hk⟩ | ⟨j, rfl, hj, he⟩
  · rw [if_neg (by rw [hk]; simp)] at hR
    refine cond_f (by decide) ?_
    rw [vsT_len]
    refine ⟨fun h => ?_, ?_⟩
    · have h' : 0 < t.length := by simpa using h
      rw [i64_id (by omega) (by omega)]
      exact ⟨by omega, by omega⟩
    · have go : ¬ (t ≠ [] ∧ v ≤ (t.map (·.1)).getD (t.length - 1) 0) → L.ref8_Deployment_Drop n P.g P.b P.need P.mille (vsT t) (rsT t) (csT t) (-1) (fun rRings rBaseGood rBaseBad rNeed rPerMille rVersions rReached rCounts =>
          (fits (rVersions.length + ([v] : List Int).length)) ∧ (fits (rReached.length + ([0] : List Int).length)) ∧ (fits (rCounts.length + ([(0, 0)] : List (Int × Int)).length)) ∧
          Kr 0 rRings rBaseGood rBaseBad rNeed rPerMille (rVersions ++ ([v] : List Int)) (rReached ++ ([0] : List Int)) (rCounts ++ ([(0, 0)] : List (Int × Int)))) := by
        intro hno
        rw [if_neg hno] at hR
        subst hR
        refine drop_none (by omega) ⟨?_, ?_, ?_, ?_⟩
        · simp only [fits, vsT_len, List.length_singleton]; omega
        · simp only [fits, rsT_len, List.length_singleton]; omega
        · simp only [fits, csT_len, List.length_singleton]; omega
        · unfold vsT rsT csT at *
          simp only [List.map_append] at hK
          exact hK
      by_cases h0 : 0 < t.length
      · have hd : decide (((t.length : Nat) : Int) > 0) = true := decide_eq_true (by omega)
        rw [hd, i64_id (by omega) (by omega), show (((t.length : Nat) : Int) - 1).toNat = t.length - 1 from by omega]
        have hne : t ≠ [] := fun e => by rw [e] at h0; simp at h0
        by_cases h3 : v ≤ (t.map (·.1)).getD (t.length - 1) 0
        · rw [if_pos ⟨hne, h3⟩] at hR
          subst hR
          exact cond_t (decide_eq_true h3) hK
        · exact cond_f (decide_eq_false h3) (go fun h => h3 h.2)
      · have hd : decide (((t.length : Nat) : Int) > 0) = false := decide_eq_false (by omega)
        rw [hd]
        exact cond_f rfl (go fun h => h.1 (List.length_eq_zero_iff.1 (by omega)))
  · have hat : atR 0 t = true := atR_iff.2 ⟨t.getD j e0, by rw [getD_get _ _ _ hj]; exact List.getElem_mem hj, he⟩
    rw [if_pos hat] at hR
    subst hR
    exact cond_t (by simp) hK

theorem j5_ok {n : Nat} (hn : n ≤ 5) {P : Par} (hP : P.ok) {t : List Ent} (hf : Falls n t) (ht : t.length < 40) {e : Ev} (hk : 1 ≤ e.1 ∧ e.1 ≤ 4) (h5 : ¬ ((¬ (e.1 = 1 ∨ e.1 = 4) ∧ e.2.1 ≠ 0) ∨ ((e.1 = 1 ∨ e.1 = 4) ∧ e.2.2.1 ≠ 0))) {Kr : KR}
    (hK : Kr (rst P n t e).1 n P.g P.b P.need P.mille (vsT (rst P n t e).2) (rsT (rst P n t e).2) (csT (rst P n t e).2)) :
    L.ref8_Deployment_Step_h15_J5 n P.g P.b P.need P.mille (vsT t) (rsT t) (csT t) e.1 e.2.1 e.2.2.1 e.2.2.2.1 e.2.2.2.2 Kr := by
  constructor
  unfold L.ref8_Deployment_Step_h15_J5_B
  obtain ⟨k, v, r, g, b⟩ := e
  simp only at *
  by_cases h1 : k ≠ 2 ∧ ¬ (g = 0 ∧ b = 0)
  · have hfm : fm n k v r g b = 5 := by
      unfold fm
      rw [if_neg (by omega), if_pos (.inr (.inr h1))]
    unfold rst at hK
    simp only [hfm] at hK
    refine cond_t ?_ hK
    have e2 : (k != 2) = true := bne_iff_ne.2 h1.1
    rw [e2]
    by_cases hg : g = 0
    · have : b ≠ 0 := fun hb => h1.2 ⟨hg, hb⟩
      simp [hg, this]
    · simp [hg]
  · have hc1 : (bif (k != 2) then (bif (g != 0) then true else (b != 0)) else false) = false := by
      by_cases h2 : k = 2
      · simp [h2]
      · have : g = 0 ∧ b = 0 := Classical.not_not.1 fun h => h1 ⟨h2, h⟩
        simp [this.1, this.2]
    refine cond_f hc1 ?_
    by_cases h3 : r < 0 ∨ r ≥ n
    · have hfm : fm n k v r g b = 3 := by
        unfold fm
        rw [if_neg (by omega), if_neg (fun h => h.elim (fun h => h5 (.inl h)) fun h => h.elim (fun h => h5 (.inr h)) h1), if_pos h3]
      unfold rst at hK
      simp only [hfm] at hK
      exact cond_t (by simp; omega) hK
    · have hfm : fm n k v r g b = 0 := by
        unfold fm
        rw [if_neg (by omega), if_neg (fun h => h.elim (fun h => h5 (.inl h)) fun h => h.elim (fun h => h5 (.inr h)) h1), if_neg h3]
      refine cond_f (by simp; omega) ?_
      unfold rst at hK
      simp only [hfm, ne_eq, not_true_eq_false, if_false] at hK
      by_cases h4 : k = 4
      · subst h4
        simp only [show ¬ ((4 : Int) = 1) from by decide, show ¬ ((4 : Int) = 2) from by decide, show ¬ ((4 : Int) = 3) from by decide, if_false] at hK
        refine cond_t rfl ⟨⟨t.length + 1, ?_⟩⟩
        have := abort_loop (P := P) (n := n) hf (by omega) (v := v) (Kx := Kr 6 n P.g P.b P.need P.mille (vsT t) (rsT t) (csT t)) (Kr := Kr) (fun h => by rw [h] at hK; exact hK) (fun h => by rw [if_pos h] at hK; exact hK) (t.length + 1) 0 (by omega) (by omega) (by simp)
        exact_mod_cast this
      · refine cond_f (beq_eq_false_iff_ne.2 h4) ?_
        obtain ⟨r', rfl⟩ : ∃ r' : Nat, r = r' := ⟨r.toNat, by omega⟩
        have hr : r' < n := by omega
        rw [Int.toNat_natCast] at hK
        refine active_C (by omega) fun a ha => ?_
        · by_cases hk1 : k = 1
          · subst hk1
            have hr0 : r' = 0 := by
              apply Classical.not_not.1
              intro h
              exact h5 (.inr ⟨.inl rfl, by omega⟩)
            subst hr0
            rw [if_pos rfl] at hK
            exact cond_t rfl (start_T (by omega) ha rfl hK)
          · rw [if_neg hk1] at hK
            refine cond_f (beq_eq_false_iff_ne.2 hk1) ?_
            by_cases hk2 : k = 2
            · subst hk2
              rw [if_pos rfl] at hK
              refine cond_t rfl ?_
              by_cases hg : (0 ≤ g ∧ 0 ≤ b ∧ g + b ≤ 25)
              · rw [if_neg (fun h => h hg)] at hK
                exact Can.CountsValid_ok hg ⟨cond_f rfl (j4_report hP hf (by omega) hr hg ha rfl hK)⟩
              · rw [if_pos hg] at hK
                exact Can.CountsValid_bad hg ⟨cond_t rfl hK⟩
            · rw [if_neg hk2] at hK
              obtain rfl : k = 3 := by omega
              rw [if_pos rfl] at hK
              exact cond_f rfl ⟨cond_f rfl (j4_adv hn hP hf (by omega) hr ha rfl hK)⟩

theorem rstep_ok {n : Nat} (hn : n ≤ 5) {P : Par} (hP : P.ok) {t : List Ent} (hf : Falls n t) (ht : t.length < 40) {e : Ev} {K : Int → Int → Int → Int → Int → List Int → List Int → List (Int × Int) → Int → Prop}
    (hK : K n P.g P.b P.need P.mille (vsT (rst P n t e).2) (rsT (rst P n t e).2) (csT (rst P n t e).2) (rst P n t e).1) :
    L.ref8_Deployment_Step_h15 n P.g P.b P.need P.mille (vsT t) (rsT t) (csT t) e.1 e.2.1 e.2.2.1 e.2.2.2.1 e.2.2.2.2 K := by
  constructor
  unfold L.ref8_Deployment_Step_h15_B
  by_cases h1 : e.1 < 1 ∨ e.1 > 4
  · have hfm : fm n e.1 e.2.1 e.2.2.1 e.2.2.2.1 e.2.2.2.2 = 4 := by
      unfold fm
      rw [if_pos h1]
    unfold rst at hK
    simp only [hfm] at hK
    exact cond_t (by simp; omega) hK
  · refine cond_f (by simp; omega) ?_
    by_cases h2 : e.1 = 1 ∨ e.1 = 4
    · refine cond_t (by simp; omega) ?_
      by_cases h3 : e.2.2.1 ≠ 0
      · have hfm : fm n e.1 e.2.1 e.2.2.1 e.2.2.2.1 e.2.2.2.2 = 5 := by
          unfold fm
          rw [if_neg h1, if_pos (.inr (.inl ⟨h2, h3⟩))]
        unfold rst at hK
        simp only [hfm] at hK
        exact cond_t (bne_iff_ne.2 h3) hK
      · exact cond_f (by rw [bne_eq_false_iff_eq]; omega) (j5_ok hn hP hf ht (by omega) (fun h => h.elim (fun h => h.1 h2) fun h => h3 h.2) hK)
    · refine cond_f (by simp; omega) ?_
      by_cases h3 : e.2.1 ≠ 0
      · have hfm : fm n e.1 e.2.1 e.2.2.1 e.2.2.2.1 e.2.2.2.2 = 5 := by
          unfold fm
          rw [if_neg h1, if_pos (.inl ⟨h2, h3⟩)]
        unfold rst at hK
        simp only [hfm] at hK
        exact cond_t (bne_iff_ne.2 h3) hK
      · exact cond_f (by rw [bne_eq_false_iff_eq]; omega) (j5_ok hn hP hf ht (by omega) (fun h => h.elim (fun h => h3 h.2) fun h => h2 h.1) hK)

end Ro
end Go.Proofs.Ytgedmbndmdphdaa

/-
  What the functions of the rollout compute. Conditions: none.
-/
import Derived.Test.YtgedmbndmdphdaaRoB
namespace Go.Proofs.Ytgedmbndmdphdaa
open Eng
namespace Ro
open Can (okC okC_nat)

/-- The samples of the base, and what is asked of a ring. -/
structure Par where
  g : Int
  b : Int
  need : Int
  mille : Int

def Par.ok (P : Par) : Prop := okC P.g P.b ∧ 0 ≤ P.need ∧ P.need ≤ 25 ∧ 0 ≤ P.mille ∧ P.mille < 1000

def vd (P : Par) (g b : Int) : Int := Can.vdt P.g.toNat P.b.toNat g.toNat b.toNat P.need P.mille

theorem decide_ok {P : Par} (hP : P.ok) {g b : Int} (h : okC g b) {rows : List Row} {K : Int → Prop} (hK : K (vd P g b)) : L.rollout_plan_decide rows P.g P.b P.need P.mille g b K := by
  obtain ⟨pg, pb, n, m⟩ := P
  obtain ⟨h1, h2, h3, h4, h5⟩ := hP
  simp only at h1 h2 h3 h4 h5
  obtain ⟨g1, b1, rfl, rfl, hs1⟩ := okC_nat h1
  obtain ⟨g2, b2, rfl, rfl, hs2⟩ := okC_nat h
  simp only [vd, Int.toNat_natCast] at hK
  exact ⟨⟨Can.Decide_ok g1 b1 g2 b2 n m hs1 hs2 h2 h3 h4 h5 hK, Can.Decide_ok g1 b1 g2 b2 n m hs1 hs2 h2 h3 h4 h5 hK⟩⟩


/-- The error of the form of an event. -/
def fm (n : Nat) (k v r g b : Int) : Int :=
  if k < 1 ∨ k > 4 then 4
  else if (¬ (k = 1 ∨ k = 4) ∧ v ≠ 0) ∨ ((k = 1 ∨ k = 4) ∧ r ≠ 0) ∨ (k ≠ 2 ∧ ¬ (g = 0 ∧ b = 0)) then 5
  else if r < 0 ∨ r ≥ n then 3 else 0

theorem form1_ok {a : List Row} {x : Bool} {r : Int} {K : Int → Prop} (h1 : x = true → K 5) (h2 : x = false → K (if r < 0 ∨ r ≥ a.length then 3 else 0)) : L.rollout_plan_form_J1 a x r (K 0) K := by
  constructor
  unfold L.rollout_plan_form_J1_B
  cases x with
  | true => exact h1 rfl
  | false =>
    have h := h2 rfl
    refine cond_f rfl ?_
    by_cases hr : r < 0 ∨ r ≥ a.length
    · rw [if_pos hr] at h
      exact cond_t (by simp; omega) h
    · rw [if_neg hr] at h
      exact cond_f (by simp; omega) h

theorem form_ok {a : List Row} {p p1 p2 p3 k v r g b : Int} {K : Int → Prop} (hK : K (fm a.length k v r g b)) : L.rollout_plan_form a p p1 p2 p3 k v r g b K := by
  constructor
  unfold L.rollout_plan_form_B
  unfold fm at hK
  by_cases hk : k < 1 ∨ k > 4
  · rw [if_pos hk] at hK
    exact cond_t (by simp; omega) hK
  · rw [if_neg hk] at hK
    refine cond_f (by simp; omega) ?_
    have vk : (bif (k == 1) then true else (k == 4)) = decide (k = 1 ∨ k = 4) := by
      by_cases h1 : k = 1
      · simp [h1]
      · by_cases h4 : k = 4 <;> simp [h1, h4]
    rw [vk]
    by_cases hx : ¬ (k = 1 ∨ k = 4) ∧ v ≠ 0
    · rw [if_pos (.inl hx)] at hK
      have e : (bif (!decide (k = 1 ∨ k = 4)) then (v != 0) else false) = true := by simp [hx.2]; omega
      rw [e]
      exact cond_t rfl (form1_ok (fun _ => hK) (fun e => by cases e))
    · have e : (bif (!decide (k = 1 ∨ k = 4)) then (v != 0) else false) = false := by
        by_cases h1 : k = 1 ∨ k = 4
        · simp [h1]
        · have : v = 0 := by omega
          simp [this]
      rw [e]
      refine cond_f rfl ?_
      by_cases hy : (k = 1 ∨ k = 4) ∧ r ≠ 0
      · rw [if_pos (.inr (.inl hy))] at hK
        have e : (bif decide (k = 1 ∨ k = 4) then (r != 0) else false) = true := by simp [hy.1, hy.2]
        rw [e]
        exact cond_t rfl (form1_ok (fun _ => hK) (fun e => by cases e))
      · have e : (bif decide (k = 1 ∨ k = 4) then (r != 0) else false) = false := by
          by_cases h1 : k = 1 ∨ k = 4
          · have : r = 0 := by omega
            simp [this]
          · simp [h1]
        rw [e]
        refine cond_f rfl (form1_ok (fun hz => ?_) (fun hz => ?_))
        · have : k ≠ 2 ∧ ¬ (g = 0 ∧ b = 0) := by
            by_cases h2 : k = 2
            · simp [h2] at hz
            · refine ⟨h2, fun h => ?_⟩
              simp [h.1, h.2] at hz
          rw [if_pos (.inr (.inr this))] at hK
          exact hK
        · have : ¬ (k ≠ 2 ∧ ¬ (g = 0 ∧ b = 0)) := by
            rintro ⟨h2, h⟩
            apply h
            have e2 : (k == 2) = false := beq_eq_false_iff_ne.2 h2
            simpa [e2] using hz
          rw [if_neg (fun h => h.elim hx fun h => h.elim hy this)] at hK
          exact hK

/-- A version starts in the first ring. -/
def st (a : List Row) (v : Int) : Int × List Row :=
  if v < 1 ∨ v > 1000000000 then (3, a)
  else if (List.getD a 0 ([], (0, (0, 0)))).2.1 ≠ 0 then (15, a)
  else if (List.getD a 0 ([], (0, (0, 0)))).1 ≠ [] ∧ v ≤ (List.getD a 0 ([], (0, (0, 0)))).1.getD ((List.getD a 0 ([], (0, (0, 0)))).1.length - 1) 0 then (16, a)
  else (0, a.set 0 ((List.getD a 0 ([], (0, (0, 0)))).1, (v, (0, 0))))

theorem start_ok {a : List Row} {v : Int} {m : Pool} {hs : List Hrow} (hS : Lay m hs a) (ha : 0 < a.length) (hb : (List.getD a 0 ([], (0, (0, 0)))).1.length < 4611686018427387904) {p p1 p2 p3 : Int}
    {K : Int → Pool → Int → Int → Int → Int → List Hrow → Prop} (hK : ∀ hs', Lay m hs' (st a v).2 → K (st a v).1 m p p1 p2 p3 hs') : L.rollout_plan_start_h4 v m p p1 p2 p3 hs K := by
  obtain ⟨hl, he⟩ := hS.row 0 ha
  have hsl := hS.len
  refine ⟨⟨⟨by omega, by omega⟩, ?_⟩⟩
  unfold st at hK
  rw [show ((0 : Int).toNat) = 0 from rfl]
  have hn : (List.getD hs 0 (Hd.nil, (0, (0, 0)))).1.n = (List.getD a 0 ([], (0, (0, 0)))).1.length := hl.1
  by_cases h1 : v < 1 ∨ v > 1000000000
  · simp only [if_pos h1] at hK
    exact cond_t (by simp; omega) (hK hs hS)
  simp only [if_neg h1] at hK
  refine cond_f (by simp; omega) ?_
  rw [show (hs.getD 0 (Hd.nil, (0, (0, 0)))).2 = (List.getD a 0 ([], (0, (0, 0)))).2 from he]
  by_cases h2 : (List.getD a 0 ([], (0, (0, 0)))).2.1 ≠ 0
  · simp only [if_pos h2] at hK
    exact cond_t (bne_iff_ne.2 h2) (hK hs hS)
  simp only [if_neg h2] at hK
  refine cond_f (by rw [bne_eq_false_iff_eq]; omega) ?_
  have hlast : 0 < (List.getD a 0 ([], (0, (0, 0)))).1.length → (i64 (((List.getD hs 0 (Hd.nil, (0, (0, 0)))).1.n : Int) - 1)).toNat = (List.getD a 0 ([], (0, (0, 0)))).1.length - 1 := fun h => by
    rw [i64_id (by omega) (by omega)]; omega
  refine ⟨fun h => ?_, fun h => ?_, ?_⟩
  · have h' : 0 < (List.getD hs 0 (Hd.nil, (0, (0, 0)))).1.n := by simpa using h
    rw [i64_id (by omega) (by omega)]
    exact ⟨⟨by omega, by omega⟩, hl.ok⟩
  · have h' : 0 < (List.getD hs 0 (Hd.nil, (0, (0, 0)))).1.n := by simpa using h
    rw [hlast (by omega)]
    exact (hl.place (by omega)).1
  · by_cases h0 : 0 < (List.getD a 0 ([], (0, (0, 0)))).1.length
    · rw [hlast h0, (hl.place (i := (List.getD a 0 ([], (0, (0, 0)))).1.length - 1) (by omega)).2]
      have hne : (List.getD a 0 ([], (0, (0, 0)))).1 ≠ [] := fun e => by rw [e] at h0; simp at h0
      have hd : decide (((hs.getD 0 (Hd.nil, (0, (0, 0)))).1.n : Int) > 0) = true := decide_eq_true (by omega)
      rw [hd]
      by_cases h3 : v ≤ (List.getD a 0 ([], (0, (0, 0)))).1.getD ((List.getD a 0 ([], (0, (0, 0)))).1.length - 1) 0
      · simp only [if_pos (And.intro hne h3)] at hK
        exact cond_t (decide_eq_true h3) (hK hs hS)
      · rw [if_neg (fun h => h3 h.2)] at hK
        refine cond_f (decide_eq_false h3) (hK _ ?_)
        rw [getD_set_same _ _ _ _ (by omega), List.set_set]
        exact hS.set ha (v, (0, 0))
    · have hd : decide (((hs.getD 0 (Hd.nil, (0, (0, 0)))).1.n : Int) > 0) = false := decide_eq_false (by omega)
      rw [hd]
      have hne : ¬ ((List.getD a 0 ([], (0, (0, 0)))).1 ≠ [] ∧ v ≤ (List.getD a 0 ([], (0, (0, 0)))).1.getD ((List.getD a 0 ([], (0, (0, 0)))).1.length - 1) 0) := fun h => h.1 (List.length_eq_zero_iff.1 (by omega))
      rw [if_neg hne] at hK
      refine cond_f rfl (hK _ ?_)
      rw [getD_set_same _ _ _ _ (by omega), List.set_set]
      exact hS.set ha (v, (0, 0))

/-- Samples of a ring. -/
def rp (P : Par) (a : List Row) (i : Nat) (g b : Int) : Int × List Row :=
  if ¬ (0 ≤ g ∧ 0 ≤ b ∧ g + b ≤ 25) then (3, a)
  else if (List.getD a i ([], (0, (0, 0)))).2.1 = 0 then (11, a)
  else if (List.getD a i ([], (0, (0, 0)))).2.2.1 + g + ((List.getD a i ([], (0, (0, 0)))).2.2.2 + b) > 25 then (10, a)
  else if vd P ((List.getD a i ([], (0, (0, 0)))).2.2.1 + g) ((List.getD a i ([], (0, (0, 0)))).2.2.2 + b) = 3 then (0, (a.set i ((List.getD a i ([], (0, (0, 0)))).1, ((List.getD a i ([], (0, (0, 0)))).2.1, ((List.getD a i ([], (0, (0, 0)))).2.2.1 + g, (List.getD a i ([], (0, (0, 0)))).2.2.2 + b)))).map (bk (List.getD a i ([], (0, (0, 0)))).2.1))
  else (0, a.set i ((List.getD a i ([], (0, (0, 0)))).1, ((List.getD a i ([], (0, (0, 0)))).2.1, ((List.getD a i ([], (0, (0, 0)))).2.2.1 + g, (List.getD a i ([], (0, (0, 0)))).2.2.2 + b))))

/-- What every state keeps to. -/
def Small (t : Nat) (a : List Row) : Prop := ∀ r, r ∈ a → r.1.length ≤ t ∧ okC r.2.2.1 r.2.2.2

theorem Small.at {t : Nat} {a : List Row} (h : Small t a) {i : Nat} (hi : i < a.length) : (List.getD a i ([], (0, (0, 0)))).1.length ≤ t ∧ okC (List.getD a i ([], (0, (0, 0)))).2.2.1 (List.getD a i ([], (0, (0, 0)))).2.2.2 := by
  have := h _ (List.getElem_mem hi)
  rw [← getD_get a i ([], (0, (0, 0))) hi] at this
  exact this

theorem mem_set {α} {l : List α} {i : Nat} {x y : α} (h : y ∈ l.set i x) : y = x ∨ y ∈ l := by
  rcases List.mem_or_eq_of_mem_set h with h | h
  · exact .inr h
  · exact .inl h

theorem Small.set {t : Nat} {a : List Row} (h : Small t a) {i : Nat} {x : Row} (hx : x.1.length ≤ t ∧ okC x.2.2.1 x.2.2.2) : Small t (a.set i x) := fun r hr => by
  rcases mem_set hr with rfl | hr
  · exact hx
  · exact h r hr

theorem report_ok {P : Par} (hP : P.ok) {t : Nat} (ht : t < 4611686018427387904) {a : List Row} {i : Nat} {g b : Int} {m : Pool} {hs : List Hrow} (hS : Lay m hs a) (hal : a.length < 4611686018427387904) (hi : i < a.length) (hT : Small t a)
    {K : Int → Pool → Int → Int → Int → Int → List Hrow → Prop} (hK : ∀ m' hs', Lay m' hs' (rp P a i g b).2 → K (rp P a i g b).1 m' P.g P.b P.need P.mille hs') : L.rollout_plan_report_h5 i g b m P.g P.b P.need P.mille hs K := by
  obtain ⟨hl, he⟩ := hS.row i hi
  have hsl := hS.len
  obtain ⟨hti, hci⟩ := hT.at hi
  refine ⟨⟨⟨by omega, by omega⟩, ?_⟩⟩
  unfold rp at hK
  rw [Int.toNat_natCast]
  rw [show (hs.getD i (Hd.nil, (0, (0, 0)))).2 = (List.getD a i ([], (0, (0, 0)))).2 from he]
  by_cases h1 : ¬ (0 ≤ g ∧ 0 ≤ b ∧ g + b ≤ 25)
  · simp only [if_pos h1] at hK
    exact Can.Validate_bad h1 (cond_t rfl (hK m hs hS))
  rw [if_neg h1] at hK
  have h1' : okC g b := by unfold Can.okC; omega
  refine Can.Validate_ok h1' (cond_f rfl ?_)
  by_cases h2 : (List.getD a i ([], (0, (0, 0)))).2.1 = 0
  · simp only [if_pos h2] at hK
    exact cond_t (beq_iff_eq.2 h2) (hK m hs hS)
  rw [if_neg h2] at hK
  refine cond_f (beq_eq_false_iff_ne.2 h2) ?_
  unfold Can.okC at hci h1'
  rw [i64_id (n := (List.getD a i ([], (0, (0, 0)))).2.2.1 + g) (by omega) (by omega), i64_id (n := (List.getD a i ([], (0, (0, 0)))).2.2.2 + b) (by omega) (by omega), i64_id (by omega) (by omega)]
  by_cases h3 : (List.getD a i ([], (0, (0, 0)))).2.2.1 + g + ((List.getD a i ([], (0, (0, 0)))).2.2.2 + b) > 25
  · simp only [if_pos h3] at hK
    exact cond_t (decide_eq_true h3) (hK m hs hS)
  rw [if_neg h3] at hK
  refine cond_f (decide_eq_false h3) ?_
  have hS' := hS.set hi ((List.getD a i ([], (0, (0, 0)))).2.1, ((List.getD a i ([], (0, (0, 0)))).2.2.1 + g, (List.getD a i ([], (0, (0, 0)))).2.2.2 + b))
  have hc' : okC ((List.getD a i ([], (0, (0, 0)))).2.2.1 + g) ((List.getD a i ([], (0, (0, 0)))).2.2.2 + b) := by unfold Can.okC; omega
  have hT' : Small t (a.set i ((List.getD a i ([], (0, (0, 0)))).1, ((List.getD a i ([], (0, (0, 0)))).2.1, ((List.getD a i ([], (0, (0, 0)))).2.2.1 + g, (List.getD a i ([], (0, (0, 0)))).2.2.2 + b)))) := hT.set ⟨hti, hc'⟩
  refine ⟨hS'.okRows, ?_⟩
  refine decide_ok hP hc' ?_
  by_cases h4 : vd P ((List.getD a i ([], (0, (0, 0)))).2.2.1 + g) ((List.getD a i ([], (0, (0, 0)))).2.2.2 + b) = 3
  · rw [if_pos h4] at hK
    refine cond_t (beq_iff_eq.2 h4) ?_
    rw [getD_set_same _ _ _ _ (by omega)]
    refine back_ok hS' (by simpa using hal) (fun r hr => ?_) fun m' hs' h => hK m' hs' h
    have := (hT' r hr).1
    omega
  · rw [if_neg h4] at hK
    exact cond_f (beq_eq_false_iff_ne.2 h4) (hK m _ hS')

/-- A ring's version is confirmed. -/
def ad (P : Par) (a : List Row) (i : Nat) : Int × List Row :=
  if (List.getD a i ([], (0, (0, 0)))).2.1 = 0 ∨ vd P (List.getD a i ([], (0, (0, 0)))).2.2.1 (List.getD a i ([], (0, (0, 0)))).2.2.2 ≠ 2 then (11, a)
  else if i + 1 < a.length ∧ (List.getD a (i + 1) ([], (0, (0, 0)))).2.1 ≠ 0 then (15, a)
  else if i + 1 < a.length then (0, (a.set i ((List.getD a i ([], (0, (0, 0)))).1 ++ [(List.getD a i ([], (0, (0, 0)))).2.1], (0, (0, 0)))).set (i + 1) ((List.getD a (i + 1) ([], (0, (0, 0)))).1, ((List.getD a i ([], (0, (0, 0)))).2.1, (0, 0))))
  else (0, a.set i ((List.getD a i ([], (0, (0, 0)))).1 ++ [(List.getD a i ([], (0, (0, 0)))).2.1], (0, (0, 0))))

theorem adv2_ok {a : List Row} {i : Nat} {v : Int} {m : Pool} {hs : List Hrow} (hS : Lay m hs a) (_hal : a.length < 4611686018427387904) (hi : i < a.length) {K : Int → Pool → List Hrow → Prop}
    (hK : ∀ hs', Lay m hs' (if i + 1 < a.length then (a.set i ((List.getD a i ([], (0, (0, 0)))).1, (0, (0, 0)))).set (i + 1) ((List.getD a (i + 1) ([], (0, (0, 0)))).1, (v, (0, 0))) else a.set i ((List.getD a i ([], (0, (0, 0)))).1, (0, (0, 0)))) → K 0 m hs') :
    L.rollout_plan_advance_h11_J2 i (i + 1 : Int) v m hs K := by
  have hsl := hS.len
  constructor
  unfold L.rollout_plan_advance_h11_J2_B
  have e1 : ∀ y z : Int × (Int × Int), (hs.set i ((hs.getD i (Hd.nil, (0, (0, 0)))).1, y)).getD i (Hd.nil, (0, (0, 0))) = ((hs.getD i (Hd.nil, (0, (0, 0)))).1, y) := fun y z => getD_set_same _ _ _ _ (by omega)
  simp only [getD_set_same hs i _ _ (show i < hs.length by omega), List.set_set]
  have hS1 := hS.set hi (0, (0, 0))
  generalize hg : hs.set i ((hs.getD i (Hd.nil, (0, (0, 0)))).1, (0, (0, 0))) = hs1 at *
  have hl1 : hs1.length = a.length := by rw [← hg]; simp [hsl]
  by_cases hn : i + 1 < a.length
  · rw [if_pos hn] at hK
    have hS2 := hS1.set (i := i + 1) (by simpa using hn) (v, (0, 0))
    refine cond_t (by simp; omega) ?_
    have ei : ((i : Int) + 1).toNat = i + 1 := by omega
    rw [ei]
    simp only [getD_set_same hs1 (i + 1) _ _ (show i + 1 < hs1.length by omega)]
    refine ⟨⟨by omega, by omega⟩, ⟨by omega, by simp; omega⟩, hK _ ?_⟩
    rw [getD_set_other _ _ _ _ _ (by omega)] at hS2
    exact hS2
  · rw [if_neg hn] at hK
    exact cond_f (by simp; omega) (hK _ hS1)

theorem adv3_ok {t : Nat} (ht : t < 1073741823) {a : List Row} {i : Nat} {m : Pool} {hs : List Hrow} (hS : Lay m hs a) (hal : a.length < 4611686018427387904) (hi : i < a.length) (hT : Small t a) {K : Int → Pool → List Hrow → Prop}
    (hK : ∀ m' hs', Lay m' hs' (if i + 1 < a.length then (a.set i ((List.getD a i ([], (0, (0, 0)))).1 ++ [(List.getD a i ([], (0, (0, 0)))).2.1], (0, (0, 0)))).set (i + 1) ((List.getD a (i + 1) ([], (0, (0, 0)))).1, ((List.getD a i ([], (0, (0, 0)))).2.1, (0, 0))) else a.set i ((List.getD a i ([], (0, (0, 0)))).1 ++ [(List.getD a i ([], (0, (0, 0)))).2.1], (0, (0, 0)))) → K 0 m' hs') :
    L.rollout_plan_advance_h11_J3 i (i + 1 : Int) m hs K := by
  obtain ⟨hl, he⟩ := hS.row i hi
  have hsl := hS.len
  obtain ⟨hti, _⟩ := hT.at hi
  have hn : (List.getD hs i (Hd.nil, (0, (0, 0)))).1.n = (List.getD a i ([], (0, (0, 0)))).1.length := hl.1
  have he1 : (hs.getD i (Hd.nil, (0, (0, 0)))).2 = (List.getD a i ([], (0, (0, 0)))).2 := he
  constructor
  unfold L.rollout_plan_advance_h11_J3_B
  rw [he1]
  -- whatever the new header is
  have fin : ∀ h' m', Lies m' h' ((List.getD a i ([], (0, (0, 0)))).1 ++ [(List.getD a i ([], (0, (0, 0)))).2.1]) → (blk h' = blk (List.getD hs i (Hd.nil, (0, (0, 0)))).1 ∨ ∀ b, blk h' = some b → pfind m b = none) → Keeps (List.getD hs i (Hd.nil, (0, (0, 0)))).1 m m' →
      L.rollout_plan_advance_h11_J2 i (i + 1 : Int) (List.getD a i ([], (0, (0, 0)))).2.1 m' (hs.set i (h', ((List.getD a i ([], (0, (0, 0)))).2.1, ((List.getD a i ([], (0, (0, 0)))).2.2.1, (List.getD a i ([], (0, (0, 0)))).2.2.2)))) K := by
    intro h' m' g1 g2 g3
    have hu := hS.upd hi (r := (List.getD a i ([], (0, (0, 0)))).2) g1 g2 g3
    refine adv2_ok hu (by simpa using hal) (by simpa using hi) fun hs' hh => hK m' hs' ?_
    have e1 : (List.getD (a.set i ((List.getD a i ([], (0, (0, 0)))).1 ++ [(List.getD a i ([], (0, (0, 0)))).2.1], (List.getD a i ([], (0, (0, 0)))).2)) i ([], (0, (0, 0)))) = ((List.getD a i ([], (0, (0, 0)))).1 ++ [(List.getD a i ([], (0, (0, 0)))).2.1], (List.getD a i ([], (0, (0, 0)))).2) := getD_set_same _ _ _ _ hi
    have e2 : (List.getD (a.set i ((List.getD a i ([], (0, (0, 0)))).1 ++ [(List.getD a i ([], (0, (0, 0)))).2.1], (List.getD a i ([], (0, (0, 0)))).2)) (i + 1) ([], (0, (0, 0)))) = (List.getD a (i + 1) ([], (0, (0, 0)))) := getD_set_other _ _ _ _ _ (by omega)
    rw [e1, e2, List.set_set, List.length_set] at hh
    exact hh
  refine ⟨hl.ok, ?_, ?_⟩
  · simp only [fits, List.length_singleton]
    omega
  · by_cases hc : (List.getD hs i (Hd.nil, (0, (0, 0)))).1.n + 1 ≤ (List.getD hs i (Hd.nil, (0, (0, 0)))).1.c
    · refine cond_t (Nat.ble_eq_true_of_le hc) ?_
      obtain ⟨g1, g2⟩ := hl.more (List.getD a i ([], (0, (0, 0)))).2.1 hc
      exact fin _ _ g1 (.inl rfl) g2
    · refine cond_f (by rw [Bool.eq_false_iff]; exact fun h => hc (Nat.le_of_ble_eq_true h)) fun b cap hb hcap => ?_
      obtain ⟨g1, g2⟩ := hl.moved (List.getD a i ([], (0, (0, 0)))).2.1 hb hcap
      refine fin _ _ g1 (.inr fun b' hb' => ?_) g2
      simp only [blk] at hb'
      split at hb'
      · cases hb'
      · cases hb'
        exact hb

theorem advance_ok {P : Par} (hP : P.ok) {t : Nat} (ht : t < 1073741823) {a : List Row} {i : Nat} {m : Pool} {hs : List Hrow} (hS : Lay m hs a) (hal : a.length < 4611686018427387904) (hi : i < a.length) (hT : Small t a)
    {K : Int → Pool → Int → Int → Int → Int → List Hrow → Prop} (hK : ∀ m' hs', Lay m' hs' (ad P a i).2 → K (ad P a i).1 m' P.g P.b P.need P.mille hs') : L.rollout_plan_advance_h11 i m P.g P.b P.need P.mille hs K := by
  obtain ⟨hl, he⟩ := hS.row i hi
  have hsl := hS.len
  obtain ⟨hti, hci⟩ := hT.at hi
  have he1 : (hs.getD i (Hd.nil, (0, (0, 0)))).2 = (List.getD a i ([], (0, (0, 0)))).2 := he
  refine ⟨⟨⟨by omega, by omega⟩, ?_⟩⟩
  unfold ad at hK
  rw [Int.toNat_natCast, he1, i64_id (by omega) (by omega)]
  by_cases h1 : (List.getD a i ([], (0, (0, 0)))).2.1 = 0
  · simp only [if_pos (Or.inl (b := vd P (List.getD a i ([], (0, (0, 0)))).2.2.1 (List.getD a i ([], (0, (0, 0)))).2.2.2 ≠ 2) h1)] at hK
    exact cond_t (beq_iff_eq.2 h1) ⟨hK m hs hS⟩
  refine cond_f (beq_eq_false_iff_ne.2 h1) ⟨hS.okRows, decide_ok hP hci ?_⟩
  by_cases h2 : vd P (List.getD a i ([], (0, (0, 0)))).2.2.1 (List.getD a i ([], (0, (0, 0)))).2.2.2 ≠ 2
  · simp only [if_pos (Or.inr (a := (List.getD a i ([], (0, (0, 0)))).2.1 = 0) h2)] at hK
    have e : (bif false then true else (vd P (List.getD a i ([], (0, (0, 0)))).2.2.1 (List.getD a i ([], (0, (0, 0)))).2.2.2 != 2)) = true := bne_iff_ne.2 h2
    rw [e]
    exact ⟨hK m hs hS⟩
  rw [if_neg (fun h => h.elim h1 h2)] at hK
  have e : (bif false then true else (vd P (List.getD a i ([], (0, (0, 0)))).2.2.1 (List.getD a i ([], (0, (0, 0)))).2.2.2 != 2)) = false := by
    show (_ != _) = false
    rw [bne_eq_false_iff_eq]; omega
  rw [e]
  refine ⟨cond_f rfl ⟨fun h => ?_, ?_⟩⟩
  · have h' : (i : Int) + 1 < hs.length := by simpa using h
    exact ⟨by omega, h'⟩
  · have ei : ((i : Int) + 1).toNat = i + 1 := by omega
    rw [ei]
    by_cases hn : i + 1 < a.length
    · have hd : decide ((i : Int) + 1 < (hs.length : Int)) = true := decide_eq_true (by omega)
      rw [hd]
      have he2 : (hs.getD (i + 1) (Hd.nil, (0, (0, 0)))).2 = (List.getD a (i + 1) ([], (0, (0, 0)))).2 := (hS.row (i + 1) hn).2
      rw [he2]
      by_cases h3 : (List.getD a (i + 1) ([], (0, (0, 0)))).2.1 ≠ 0
      · simp only [if_pos (And.intro hn h3)] at hK
        exact cond_t (bne_iff_ne.2 h3) (hK m hs hS)
      · rw [if_neg (fun h => h3 h.2)] at hK
        refine cond_f (by rw [cond_true, bne_eq_false_iff_eq]; omega) (adv3_ok ht hS hal hi hT fun m' hs' h => ?_)
        rw [if_pos hn] at hK
        rw [if_pos hn] at h
        exact hK m' hs' h
    · have hd : decide ((i : Int) + 1 < (hs.length : Int)) = false := decide_eq_false (by omega)
      rw [hd]
      rw [if_neg (fun h => hn h.1), if_neg hn] at hK
      refine cond_f rfl (adv3_ok ht hS hal hi hT fun m' hs' h => ?_)
      rw [if_neg hn] at h
      exact hK m' hs' h

end Ro
end Go.Proofs.Ytgedmbndmdphdaa

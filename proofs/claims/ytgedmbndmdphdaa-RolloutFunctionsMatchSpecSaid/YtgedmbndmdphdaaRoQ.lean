/-
  The reference's rings: what State makes of the list of versions. Conditions: none.
-/
import Derived.Test.YtgedmbndmdphdaaRoP
namespace Go.Proofs.Ytgedmbndmdphdaa
open Eng
namespace Ro
open Can (okC okC_nat)

def vsT (t : List Ent) : List Int := t.map (·.1)
def rsT (t : List Ent) : List Int := t.map fun e => ((e.2.1 : Nat) : Int)
def csT (t : List Ent) : List (Int × Int) := t.map (·.2.2)

abbrev e0 : Ent := (0, (0, (0, 0)))

theorem vsT_len (t : List Ent) : (vsT t).length = t.length := by simp [vsT]
theorem rsT_len (t : List Ent) : (rsT t).length = t.length := by simp [rsT]
theorem csT_len (t : List Ent) : (csT t).length = t.length := by simp [csT]
theorem vsT_get {t : List Ent} {i : Nat} (h : i < t.length) : (vsT t).getD i 0 = (t.getD i e0).1 := getD_map _ _ _ e0 _ h
theorem rsT_get {t : List Ent} {i : Nat} (h : i < t.length) : (rsT t).getD i 0 = (((t.getD i e0).2.1 : Nat) : Int) := getD_map (fun e : Ent => ((e.2.1 : Nat) : Int)) _ _ e0 _ h
theorem csT_get {t : List Ent} {i : Nat} (h : i < t.length) : (csT t).getD i (0, 0) = (t.getD i e0).2.2 := getD_map (fun e : Ent => e.2.2) _ _ e0 _ h

/-- The rings when the first r of them have a version more. -/
def mid (n : Nat) (u : List Ent) (v : Int) (r : Nat) : List Row := (List.range n).map fun j => (conf j u ++ (if j < r then [v] else []), act j u)

theorem mid_len (n : Nat) (u : List Ent) (v : Int) (r : Nat) : (mid n u v r).length = n := by simp [mid]

theorem mid_get {n : Nat} {u : List Ent} {v : Int} {r j : Nat} (h : j < n) : (mid n u v r).getD j ([], (0, (0, 0))) = (conf j u ++ (if j < r then [v] else []), act j u) := by
  rw [getD_get _ _ _ (by rw [mid_len]; exact h)]
  simp [mid]

theorem mid_zero (n : Nat) (u : List Ent) (v : Int) : mid n u v 0 = rows n u := by
  unfold mid rows
  apply List.map_congr_left
  intro j _
  simp [rowOf]

theorem mid_succ {n : Nat} {u : List Ent} {v : Int} {r : Nat} (h : r < n) : mid n u v (r + 1) = (mid n u v r).set r (((mid n u v r).getD r ([], (0, (0, 0)))).1 ++ [v], ((mid n u v r).getD r ([], (0, (0, 0)))).2) := by
  apply List.ext_getElem
  · simp [mid_len]
  · intro j h1 h2
    rw [mid_len] at h1
    rw [← getD_get _ _ ([], (0, (0, 0))) (by rw [mid_len]; exact h1), ← getD_get _ _ ([], (0, (0, 0))) h2, mid_get h1, mid_get h]
    by_cases e : r = j
    · subst e
      rw [getD_set_same _ _ _ _ (by rw [mid_len]; exact h)]
      simp
    · rw [getD_set_other _ _ _ _ _ e, mid_get h1]
      by_cases hj : j < r
      · rw [if_pos hj, if_pos (by omega)]
      · rw [if_neg hj, if_neg (by omega)]

theorem conf_snoc (j : Nat) (u : List Ent) (x : Ent) : conf j (u ++ [x]) = conf j u ++ (if j < x.2.1 then [x.1] else []) := by
  rw [conf_append]
  congr 1
  rw [conf_cons]
  rfl

theorem mid_full {n : Nat} {u : List Ent} {x : Ent} (hx : n ≤ x.2.1) : mid n u x.1 x.2.1 = rows n (u ++ [x]) := by
  unfold mid rows
  apply List.map_congr_left
  intro j hj
  have hj' : j < n := by simpa using hj
  simp only [rowOf, conf_snoc, act_append_ne j x (by omega) u]

theorem mid_last {n : Nat} {u : List Ent} {x : Ent} (hx : x.2.1 < n) (hu : ∀ e, e ∈ u → e.2.1 ≠ x.2.1) :
    (mid n u x.1 x.2.1).set x.2.1 (((mid n u x.1 x.2.1).getD x.2.1 ([], (0, (0, 0)))).1, (x.1, x.2.2)) = rows n (u ++ [x]) := by
  symm
  apply rows_ext
  · simp [mid_len]
  · intro j hj
    have ha : act j (u ++ [x]) = if x.2.1 = j then (x.1, x.2.2) else act j u := by
      by_cases e : x.2.1 = j
      · subst e
        rw [act_append _ x u hu, if_pos rfl, if_pos rfl]
      · rw [if_neg e, act_append_ne j x e u]
    simp only [rowOf, conf_snoc, ha]
    by_cases e : x.2.1 = j
    · subst e
      rw [getD_set_same _ _ _ _ (by rw [mid_len]; exact hj), mid_get hj, if_pos rfl]
    · rw [getD_set_other _ _ _ _ _ e, mid_get hj, if_neg e]

theorem st_inner {n : Nat} {t u : List Ent} {i k : Nat} {v : Int} (hn : n ≤ 5) (hi : i < t.length) (hu : u.length ≤ 40) (hv : (vsT t).getD i 0 = v) (hk : (rsT t).getD i 0 = (k : Int)) (hkn : k ≤ n)
    {K : Pool → List Hrow → Prop} (hK : ∀ m hs, Lay m hs (mid n u v k) → K m hs) : ∀ (fu r : Nat) (m : Pool) (hs : List Hrow), r ≤ k → k - r < fu → Lay m hs (mid n u v r) → L.ref8_Deployment_State_h16_L1_R i (vsT t) (rsT t) fu r m hs K
  | 0, r, m, hs, _, h, _ => by omega
  | fu + 1, r, m, hs, hr, h, hS => by
    show L.ref8_Deployment_State_h16_L1_b i (vsT t) (rsT t) r m hs _ K
    unfold L.ref8_Deployment_State_h16_L1_b
    have b1 : inB (i : Int) (rsT t).length := ⟨by omega, by rw [rsT_len]; omega⟩
    have b2 : inB (i : Int) (vsT t).length := ⟨by omega, by rw [vsT_len]; omega⟩
    refine ⟨b1, ?_⟩
    rw [Int.toNat_natCast, Int.toNat_natCast, hv, hk]
    rcases Nat.lt_or_ge r k with g | g
    · have hrn : r < n := by omega
      have hra : r < (mid n u v r).length := by rw [mid_len]; exact hrn
      obtain ⟨hl, he⟩ := hS.row r hra
      have hsl := hS.len
      rw [mid_len] at hsl
      have b3 : inB (r : Int) hs.length := ⟨by omega, by omega⟩
      have hl1 : (hs.getD r (Hd.nil, (0, (0, 0)))).1.n ≤ 41 := by
        rw [hl.1, mid_get hrn]
        have hc : (conf r u).length ≤ u.length := by
          unfold conf
          rw [List.length_map]
          exact List.length_filter_le _ _
        simp only [List.length_append]
        split <;> simp <;> omega
      refine cond_t (by simp; omega) ?_
      have fin : ∀ h' m', Lies m' h' (((mid n u v r).getD r ([], (0, (0, 0)))).1 ++ [v]) → (blk h' = blk (hs.getD r (Hd.nil, (0, (0, 0)))).1 ∨ ∀ b, blk h' = some b → pfind m b = none) → Keeps (hs.getD r (Hd.nil, (0, (0, 0)))).1 m m' →
          (inB (r : Int) hs.length) ∧ L.ref8_Deployment_State_h16_L1_R i (vsT t) (rsT t) fu (i64 ((r : Int) + 1)) m' (hs.set r (h', (hs.getD r (Hd.nil, (0, (0, 0)))).2)) K := by
        intro h' m' g1 g2 g3
        have hu2 := hS.upd hra (r := ((mid n u v r).getD r ([], (0, (0, 0)))).2) g1 g2 g3
        rw [← mid_succ hrn, ← he] at hu2
        refine ⟨b3, ?_⟩
        rw [i64_id (by omega) (by omega)]
        have := st_inner hn hi hu hv hk hkn hK fu (r + 1) m' _ (by omega) (by omega) hu2
        exact_mod_cast this
      refine ⟨b2, ⟨b3, ?_, ?_⟩, b3, ?_⟩
      all_goals
        refine ⟨hl.ok, ?_, ?_⟩
        · simp only [fits, List.length_singleton]
          omega
        · by_cases hc : (List.getD hs r (Hd.nil, (0, (0, 0)))).1.n + 1 ≤ (List.getD hs r (Hd.nil, (0, (0, 0)))).1.c
          · refine cond_t (Nat.ble_eq_true_of_le hc) ?_
            obtain ⟨g1, g2⟩ := hl.more v hc
            exact fin _ _ g1 (.inl rfl) g2
          · refine cond_f (by rw [Bool.eq_false_iff]; exact fun h => hc (Nat.le_of_ble_eq_true h)) fun b cap hb hcap => ?_
            obtain ⟨g1, g2⟩ := hl.moved v hb hcap
            refine fin _ _ g1 (.inr fun b' hb' => ?_) g2
            simp only [blk] at hb'
            split at hb'
            · cases hb'
            · cases hb'
              exact hb
    · obtain rfl : r = k := by omega
      exact cond_f (by simp) (hK m hs hS)

theorem take_snoc {t : List Ent} {i : Nat} (hi : i < t.length) : t.take (i + 1) = t.take i ++ [t.getD i e0] := by
  rw [List.take_add_one, List.getElem?_eq_getElem hi, getD_get _ _ _ hi]
  rfl

theorem take_ne {n : Nat} {t : List Ent} (hf : Falls n t) {i : Nat} (hi : i < t.length) (hx : (t.getD i e0).2.1 < n) : ∀ e, e ∈ t.take i → e.2.1 ≠ (t.getD i e0).2.1 := by
  intro e he
  obtain ⟨j, hj, rfl⟩ := List.getElem_of_mem he
  rw [List.length_take] at hj
  rw [List.getElem_take, getD_get _ _ _ hi] at *
  have := (List.pairwise_iff_getElem.1 hf.pw j i (by omega) hi (by omega)).2
  omega

theorem st_loop {n : Nat} {t : List Ent} (hn : n ≤ 5) (ht : t.length ≤ 40) (hf : Falls n t) {K : Pool → List Hrow → Prop} (hK : ∀ m hs, Lay m hs (rows n t) → K m hs) :
    ∀ (fu i : Nat) (m : Pool) (hs : List Hrow), i ≤ t.length → t.length - i < fu → Lay m hs (rows n (t.take i)) → L.ref8_Deployment_State_h16_L2_R n (vsT t) (rsT t) (csT t) fu i m hs K
  | 0, i, m, hs, _, h, _ => by omega
  | fu + 1, i, m, hs, hi, h, hS => by
    show L.ref8_Deployment_State_h16_L2_b n (vsT t) (rsT t) (csT t) i m hs _ K
    unfold L.ref8_Deployment_State_h16_L2_b
    rcases Nat.lt_or_ge i t.length with g | g
    · refine cond_t (by rw [vsT_len]; simp; omega) ?_
      have b1 : inB (i : Int) (rsT t).length := ⟨by omega, by rw [rsT_len]; omega⟩
      have b2 : inB (i : Int) (vsT t).length := ⟨by omega, by rw [vsT_len]; omega⟩
      have b3 : inB (i : Int) (csT t).length := ⟨by omega, by rw [csT_len]; omega⟩
      have hmem : t.getD i e0 ∈ t := by rw [getD_get _ _ _ g]; exact List.getElem_mem g
      have hle := (hf.each _ hmem).2.1
      have next : ∀ m' hs', Lay m' hs' (rows n (t.take (i + 1))) → L.ref8_Deployment_State_h16_L2_R n (vsT t) (rsT t) (csT t) fu (i64 ((i : Int) + 1)) m' hs' K := by
        intro m' hs' hS'
        rw [i64_id (by omega) (by omega)]
        have := st_loop hn ht hf hK fu (i + 1) m' hs' g (by omega) hS'
        exact_mod_cast this
      refine ⟨⟨(t.getD i e0).2.1 + 1, ?_⟩⟩
      refine st_inner (u := t.take i) (k := (t.getD i e0).2.1) (v := (t.getD i e0).1) hn g (by simp; omega) (vsT_get g) (rsT_get g) hle ?_ ((t.getD i e0).2.1 + 1) 0 m hs (by omega) (by omega) (by rw [mid_zero]; exact hS)
      intro m1 hs1 hS1
      refine ⟨b1, ?_⟩
      rw [Int.toNat_natCast, rsT_get g, vsT_get g, csT_get g, Int.toNat_natCast]
      have hl1 := hS1.len
      rw [mid_len] at hl1
      generalize hx : t.getD i e0 = x at *
      rcases Nat.lt_or_ge x.2.1 n with gx | gx
      · refine cond_t (by simp; omega) ⟨b1, b2, ⟨by omega, by omega⟩, b1, b3, ⟨by omega, by simp; omega⟩, next m1 _ ?_⟩
        have hne : ∀ e, e ∈ t.take i → e.2.1 ≠ x.2.1 := by
          have := take_ne hf g (by rw [hx]; exact gx)
          rw [hx] at this
          exact this
        rw [getD_set_same _ _ _ _ (by omega), List.set_set, take_snoc g, hx, ← mid_last gx hne]
        exact hS1.set (by rw [mid_len]; exact gx) (x.1, x.2.2)
      · refine cond_f (by simp; omega) (next m1 hs1 ?_)
        rw [take_snoc g, hx, ← mid_full gx]
        exact hS1
    · obtain rfl : i = t.length := by omega
      rw [List.take_length] at hS
      exact cond_f (by rw [vsT_len]; simp) (hK m hs hS)

theorem rows_nil (n : Nat) : rows n [] = List.replicate n ([], (0, (0, 0))) := by
  apply List.ext_getElem
  · simp [rows_len]
  · intro i h1 h2
    simp [rows, rowOf, conf, act]

theorem state_ok {n : Nat} {t : List Ent} (hn : n ≤ 5) (ht : t.length ≤ 40) (hf : Falls n t) {d1 d2 d3 d4 : Int} {K : List Row → Prop} (hK : K (rows n t)) :
    L.ref8_Deployment_State_h16 n d1 d2 d3 d4 (vsT t) (rsT t) (csT t) K := by
  refine ⟨⟨⟨by omega, by omega, by omega⟩, ⟨⟨t.length + 1, ?_⟩⟩⟩⟩
  rw [Int.toNat_natCast]
  have := st_loop hn ht hf (K := fun m out => (okRows m TT out) ∧ K (List.map (fz m TT) out)) (fun m hs hS => ⟨hS.okRows, by rw [hS.fz]; exact hK⟩) (t.length + 1) 0 [] (List.replicate n (Hd.nil, (0, (0, 0)))) (by omega) (by omega)
    (by rw [List.take_zero, rows_nil]; exact lay_new n)
  exact_mod_cast this

end Ro
end Go.Proofs.Ytgedmbndmdphdaa

/-
  Asking again and again for the run that is needed next decides all changes as Greedy does. Conditions: none.
-/
import Derived.Test.YtjlejiefkmimiaaSnY
import Derived.Test.YtjlejiefkmimiaaSnJ
set_option linter.unusedVariables false
namespace Go.Proofs.Ytjlejiefkmimiaa
open Eng
namespace Sn
open Sp
open Bb (failsB)

section plain
variable (cs : List (List Int))

/-- What has been accepted of the first changes, and what has been rejected. -/
def og : Nat → List Int
  | 0 => []
  | j + 1 => bif failsB cs 0 (og j ++ [(j : Int)]) then og j else og j ++ [(j : Int)]

def bad (j : Nat) : Bool := failsB cs 0 (og cs j ++ [(j : Int)])

def rg : Nat → List Int
  | 0 => []
  | j + 1 => bif bad cs j then rg j ++ [(j : Int)] else rg j

/-- The results so far. -/
def lg : Nat → List T
  | 0 => []
  | j + 1 => lg j ++ [(((j : Int), og cs j), !bad cs j)]

theorem og_succ (j : Nat) : og cs (j + 1) = bif bad cs j then og cs j else og cs j ++ [(j : Int)] := rfl

theorem og_mem : ∀ (j : Nat) (y : Int), y ∈ og cs j → 0 ≤ y ∧ y < j
  | 0, y, h => by simp [og] at h
  | j + 1, y, h => by
    rw [og_succ] at h
    cases hb : bad cs j with
    | true =>
      rw [hb] at h
      have := og_mem j y h
      omega
    | false =>
      rw [hb] at h
      rcases List.mem_append.1 h with h | h
      · have := og_mem j y h
        omega
      · rw [List.mem_singleton.1 h]
        omega

theorem og_len (j : Nat) : (og cs j).length + (rg cs j).length = j := by
  induction j with
  | zero => rfl
  | succ j ih =>
    rw [og_succ, rg]
    cases bad cs j with
    | true => simp; omega
    | false => simp; omega

theorem rcl_snoc {n n' x : Int} (hx : 0 ≤ x) (hn : x < n') (hnn : n ≤ n') : ∀ (l : List Int) (p : Int), rcl n p l = 0 → (∀ y ∈ l, y < x) → p < x → rcl n' p (l ++ [x]) = 0
  | [], p, _, _, hp => by
    show (if x < 0 ∨ n' ≤ x then 3 else if x ≤ p then 5 else 0) = (0 : Int)
    rw [if_neg (by omega), if_neg (by omega)]
  | y :: l, p, h, hl, hp => by
    rw [rcl] at h
    split at h
    · omega
    · split at h
      · omega
      · show (if y < 0 ∨ n' ≤ y then 3 else if y ≤ p then 5 else rcl n' y (l ++ [x])) = (0 : Int)
        rw [if_neg (by omega), if_neg (by omega)]
        exact rcl_snoc hx hn hnn l y h (fun z hz => hl z (List.mem_cons_of_mem _ hz)) (hl y List.mem_cons_self)

theorem rcl_mono {n n' : Int} (hnn : n ≤ n') : ∀ (l : List Int) (p : Int), rcl n p l = 0 → rcl n' p l = 0
  | [], _, _ => rfl
  | y :: l, p, h => by
    rw [rcl] at h ⊢
    split at h
    · omega
    · split at h
      · omega
      · rw [if_neg (by omega), if_neg (by omega)]
        exact rcl_mono hnn l y h

theorem og_rcl : ∀ j : Nat, rcl j (-1) (og cs j) = 0
  | 0 => rfl
  | j + 1 => by
    have ih := og_rcl j
    rw [og_succ]
    cases bad cs j with
    | true => exact rcl_mono (by omega) _ _ ih
    | false => exact rcl_snoc (by omega) (by omega) (by omega) _ _ ih (fun y hy => (og_mem cs j y hy).2) (by omega)

theorem lc_rcl (n : Int) : ∀ (l : List Int) (p : Int), Bb.lc n p l = rcl n p l
  | [], _ => rfl
  | y :: l, p => by rw [Bb.lc, rcl, lc_rcl n l y]

theorem lg_len (m : Nat) : (lg cs m).length = m := by
  induction m with
  | zero => rfl
  | succ m ih => rw [lg, List.length_append, ih]; rfl

theorem lg_mem : ∀ (m : Nat) (x : T), x ∈ lg cs m → ∃ j : Nat, j < m ∧ x = (((j : Int), og cs j), !bad cs j)
  | 0, x, h => by simp [lg] at h
  | m + 1, x, h => by
    rw [lg] at h
    rcases List.mem_append.1 h with h | h
    · obtain ⟨j, hj, e⟩ := lg_mem m x h
      exact ⟨j, by omega, e⟩
    · exact ⟨m, by omega, List.mem_singleton.1 h⟩

theorem lg_bigs {m : Nat} (hm : m ≤ 8) : bigs (lg cs m) := by
  intro x hx
  obtain ⟨j, hj, rfl⟩ := lg_mem cs m x hx
  have := og_len cs j
  show big (og cs j).length
  unfold big
  omega

theorem conf_lg {m : Nat} {x y : T} (hx : x ∈ lg cs m) (hy : y ∈ lg cs m) : conf x y = false := by
  obtain ⟨j, hj, rfl⟩ := lg_mem cs m x hx
  obtain ⟨k, hk, rfl⟩ := lg_mem cs m y hy
  unfold conf eqr
  by_cases h : j = k
  · subst h
    simp
  · rw [show ((j : Int) == (k : Int)) = false by simp; omega]
    rfl

theorem rfl'_lg {n : Int} {m : Nat} (hm : (m : Int) ≤ n) : ∀ (l : List T) (i : Int) (s : List T), (∀ x ∈ l, x ∈ lg cs m) → (∀ x ∈ s, x ∈ lg cs m) → rfl' n i s l = (0, 0)
  | [], _, _, _, _ => rfl
  | x :: r, i, s, hl, hs => by
    have hx := hl x List.mem_cons_self
    have hc : rcode n x.1.1 x.1.2 = 0 := by
      obtain ⟨j, hj, rfl⟩ := lg_mem cs m x hx
      unfold rcode
      rw [if_neg (by show ¬ ((j : Int) < 0 ∨ n ≤ (j : Int)); omega)]
      exact og_rcl cs j
    have ha : s.any (conf x) = false := by
      rw [List.any_eq_false]
      intro y hy
      rw [conf_lg cs hx (hs y hy)]
      simp
    rw [rfl', if_neg (by simpa using hc), ha, if_neg (by simp)]
    refine rfl'_lg hm r _ _ (fun y hy => hl y (List.mem_cons_of_mem _ hy)) (fun y hy => ?_)
    rcases List.mem_append.1 hy with h | h
    · exact hs y h
    · rw [List.mem_singleton.1 h]; exact hx

theorem rf_lg {n : Int} {m : Nat} (hm : (m : Int) ≤ n) (hn : n ≤ 8) : rf n (lg cs m) = (0, 0) := by
  unfold rf
  rw [if_neg (by omega), if_neg (by rw [lg_len]; omega)]
  exact rfl'_lg cs hm _ _ _ (fun _ h => h) (fun _ h => by simp at h)

theorem fnd_append (i : Int) (a : List Int) (x : T) : ∀ (l : List T), fnd (l ++ [x]) i a = match fnd l i a with
    | some b => some b
    | none => if eqr x.1.1 x.1.2 i a = true then some x.2 else none
  | [] => rfl
  | y :: l => by
    show (if eqr y.1.1 y.1.2 i a = true then some y.2 else fnd (l ++ [x]) i a) = _
    rw [fnd_append i a x l, fnd]
    split <;> rfl

theorem fnd_none : ∀ (m : Nat) (i : Int) (a : List Int), (m : Int) ≤ i → fnd (lg cs m) i a = none
  | 0, _, _, _ => rfl
  | m + 1, i, a, h => by
    rw [lg, fnd_append, fnd_none m i a (by omega)]
    have : eqr (m : Int) (og cs m) i a = false := by
      unfold eqr
      rw [show ((m : Int) == i) = false by simp; omega]
      rfl
    show (if eqr (m : Int) (og cs m) i a = true then _ else _) = _
    rw [this, if_neg (by simp)]

theorem fnd_some : ∀ (m j : Nat), j < m → fnd (lg cs m) j (og cs j) = some (!bad cs j)
  | 0, _, h => by omega
  | m + 1, j, h => by
    rw [lg, fnd_append]
    rcases Nat.lt_or_ge j m with g | g
    · rw [fnd_some m j g]
    · obtain rfl : j = m := by omega
      rw [fnd_none cs j j _ (by omega)]
      have : eqr (j : Int) (og cs j) j (og cs j) = true := by unfold eqr; simp
      show (if eqr (j : Int) (og cs j) j (og cs j) = true then _ else _) = _
      rw [this, if_pos rfl]

theorem dc_lg (m : Nat) : ∀ (k j : Nat), j ≤ m → m ≤ j + k → dc (lg cs m) k (j : Int) (og cs j) (rg cs j) = (og cs m, rg cs m)
  | 0, j, h1, h2 => by
    obtain rfl : j = m := by omega
    rfl
  | k + 1, j, h1, h2 => by
    rw [dc]
    rcases Nat.lt_or_ge j m with g | g
    · rw [fnd_some cs m j g]
      have ih := dc_lg m k (j + 1) g (by omega)
      rw [show ((j + 1 : Nat) : Int) = (j : Int) + 1 by omega, og_succ, rg] at ih
      cases hb : bad cs j with
      | true => rw [hb] at ih; exact ih
      | false => rw [hb] at ih; exact ih
    · obtain rfl : j = m := by omega
      rw [fnd_none cs j j _ (by omega)]

theorem dn_lg {n : Int} {m : Nat} (hm : (m : Int) ≤ n) : dn n (lg cs m) = (og cs m, rg cs m) := by
  unfold dn
  exact dc_lg cs m n.toNat 0 (by omega) (by omega)

theorem gr_og (n : Nat) : ∀ (fu j : Nat), j ≤ n → n ≤ j + fu → Bb.gr cs n fu j (og cs j) = og cs n
  | 0, j, h1, h2 => by
    obtain rfl : j = n := by omega
    rfl
  | fu + 1, j, h1, h2 => by
    rw [Bb.gr]
    by_cases h : (j : Int) < n
    · rw [if_pos h]
      have ih := gr_og n fu (j + 1) (by omega) (by omega)
      rw [show ((j + 1 : Nat) : Int) = (j : Int) + 1 by omega, og_succ] at ih
      show (bif bad cs j then _ else _) = _
      cases hb : bad cs j with
      | true => rw [hb] at ih; exact ih
      | false => rw [hb] at ih; exact ih
    · rw [if_neg h]
      obtain rfl : j = n := by omega
      rfl

end plain

theorem loop_ok {n : Nat} {cs : List (List Int)} (hn : n ≤ 8) (hs : ∀ s, s ∈ cs → Bb.big s.length) (hv : Bb.vf n cs = (0, 0)) {K : List T → Prop} {Kr : Bool → Prop} : ∀ (k j : Nat), j + k = n → K (lg cs n) → L.law8_SpeculateNextDecidesAll_L1_R n cs (k + 1) j (lg cs j) K Kr
  | 0, j, hj, hK => by
    show L.law8_SpeculateNextDecidesAll_L1_b n cs j (lg cs j) _ _ _
    obtain rfl : j = n := by omega
    exact cond_f (by simp) hK
  | k + 1, j, hj, hK => by
    show L.law8_SpeculateNextDecidesAll_L1_b n cs j (lg cs j) _ _ _
    have e : dn n (lg cs j) = (og cs j, rg cs j) := dn_lg cs (by omega)
    have hl := og_len cs j
    unfold L.law8_SpeculateNextDecidesAll_L1_b
    refine cond_t (by simp; omega) (Next_ok (lg_bigs cs (by omega)) (rf_lg cs (by omega) (by omega)) (fun h => ?_) (fun h => ?_))
    · rw [e] at h
      exfalso
      simp only at h
      omega
    · rw [e]
      simp only
      rw [show ((og cs j).length : Int) + ((rg cs j).length : Int) = (j : Int) by omega]
      refine cond_f (by simp) ?_
      have q1 : fits (([] : List Int).length + (og cs j).length) := Sp.fits_of (by simp; omega)
      have q2 : fits ((([] : List Int) ++ og cs j).length + ([(j : Int)] : List Int).length) := Sp.fits_of (by simp; omega)
      have q3 : L.batchbisect_Fails n cs ((([] : List Int) ++ og cs j) ++ ([(j : Int)] : List Int)) (fun r2 rCode2 rIndex2 => L.law8_SpeculateNextDecidesAll_J2 r2 (lg cs j) (og cs j) j rCode2 (fun r2 r3 => L.law8_SpeculateNextDecidesAll_L1_R n cs (k + 1) (i64 ((j : Int) + 1)) r3 K Kr) Kr) := by
        rw [List.nil_append]
        refine Bb.Fails_ok hs (by unfold Bb.big; simp; omega) hv ?_ ?_
        · rw [lc_rcl]
          exact rcl_snoc (by omega) (by omega) (by omega) _ _ (og_rcl cs j) (fun y hy => (og_mem cs j y hy).2) (by omega)
        · refine ⟨cond_f rfl ⟨Sp.fits_of (by rw [lg_len]; simp; omega), ?_⟩⟩
          rw [i64_id (by omega) (by omega), ← Bb.failsB0 (Bb.good_of hv)]
          have := loop_ok hn hs hv (K := K) (Kr := Kr) k (j + 1) (by omega) hK
          exact this
      repeat' first | exact q1 | exact q2 | exact q3 | constructor

theorem next_true (n : Int) (cs : List (List Int)) (hs : ∀ s, s ∈ cs → Bb.big s.length) (K : Bool → Prop) (hK : K true) : L.law8_SpeculateNextDecidesAll n cs K := by
  constructor
  unfold L.law8_SpeculateNextDecidesAll_B
  by_cases hv : Bb.vf n cs = (0, 0)
  · refine Bb.Greedy_ok hs hv (Sp.example_ok _ (cond_f rfl ?_))
    obtain ⟨n0, n1, _⟩ := Bb.vf_len hv
    obtain ⟨n, rfl⟩ := Int.eq_ofNat_of_zero_le n0
    by_cases h8 : (n : Int) > 8
    · exact cond_t (by rw [decide_eq_true h8]; rfl) hK
    · refine cond_f (by rw [decide_eq_false h8]; rfl) ⟨n + 1, ?_⟩
      refine loop_ok (by omega) hs hv (Kr := fun r5 => K r5) n 0 (by omega) ?_
      have hl := og_len cs n
      refine Decide_ok (lg_bigs cs (by omega)) (rf_lg cs (by omega) (by omega)) (cond_t rfl ?_)
      have e : dn n (lg cs n) = (og cs n, rg cs n) := dn_lg cs (by omega)
      show L.ref8_EqualInts (dn n (lg cs n)).1 (Bb.gr cs n 16 0 []) _
      have eg : Bb.gr cs n 16 0 [] = og cs n := gr_og cs n 16 0 (by omega) (by omega)
      rw [eg]
      show L.ref8_EqualInts (dn n (lg cs n)).1 (og cs n) (fun r4 => K (bif (bif true then r4 else false) then ((i64 (((dn n (lg cs n)).1.length : Int) + ((dn n (lg cs n)).2.length : Int))) == n) else false))
      rw [e]
      simp only
      refine EqualInts_ok (by unfold big; omega) ?_
      rw [i64_id (by omega) (by omega)]
      have : (((og cs n).length : Int) + ((rg cs n).length : Int) == (n : Int)) = true := by simp; omega
      rw [this]
      simpa using hK
  · exact Bb.Greedy_bad hs hv (Sp.example_ok _ (cond_f rfl (cond_t (by rw [Bb.vf_code hv]; rfl) hK)))

end Sn

theorem SpeculateNextDecidesAll_true (xs : ArgDen [(false, (.int .i64)), (false, (.slice (.slice (.int .i64))))]) (hw : WfAll _ xs) (K : Bool → Prop) (hK : K true) : L.law8_SpeculateNextDecidesAll xs.1 xs.2.1 K :=
  Sn.next_true _ _ (fun s h => Bb.big_of (hw.2.1.2 s h).1) K hK

end Go.Proofs.Ytjlejiefkmimiaa

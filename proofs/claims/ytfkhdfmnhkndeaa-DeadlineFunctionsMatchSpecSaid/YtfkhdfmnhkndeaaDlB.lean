/-
  The order of the processes in a tick: a stable insertion sort of at most some twenty numbers, and that it is a rearrangement. Conditions: none.
-/
import Derived.Test.YtfkhdfmnhkndeaaDlA
import Derived.Test.YtfkhdfmnhkndeaaLift3
namespace Go.Proofs.Ytfkhdfmnhkndeaa
open Eng
namespace Dl

/-- One number moves to the left as long as what stands there has waited for less long. -/
def mv (s : List Int) : Nat → List Int → List Int
  | 0, d => d
  | j + 1, d => if s.getD (d.getD (j + 1) 0).toNat 0 < s.getD (d.getD j 0).toNat 0 then mv s j ((d.set (j + 1) (d.getD j 0)).set j (d.getD (j + 1) 0)) else d

def srtF (s : List Int) : Nat → Nat → List Int → List Int
  | 0, _, d => d
  | k + 1, i, d => srtF s k (i + 1) (mv s i d)

def sortD (s : List Int) (d : List Int) : List Int := srtF s (d.length - 1) 1 d

theorem swap_perm {d : List Int} {j : Nat} (h : j + 1 < d.length) : ((d.set (j + 1) (d.getD j 0)).set j (d.getD (j + 1) 0)).Perm d := by
  rw [getD_get _ _ _ (by omega), getD_get _ _ _ h]
  exact List.set_set_perm h (by omega)

theorem mv_perm (s : List Int) : ∀ (j : Nat) (d : List Int), j < d.length → (mv s j d).Perm d
  | 0, d, _ => List.Perm.refl d
  | j + 1, d, h => by
    unfold mv
    split
    · exact (mv_perm s j _ (by simp; omega)).trans (swap_perm h)
    · exact List.Perm.refl d

theorem srtF_perm (s : List Int) : ∀ (k i : Nat) (d : List Int), i + k ≤ d.length → (srtF s k i d).Perm d
  | 0, _, d, _ => List.Perm.refl d
  | k + 1, i, d, h => by
    unfold srtF
    have hp := mv_perm s i d (by omega)
    exact (srtF_perm s k (i + 1) _ (by rw [hp.length_eq]; omega)).trans hp

theorem sortD_perm (s d : List Int) : (sortD s d).Perm d := by
  unfold sortD
  cases d with
  | nil => exact List.Perm.refl _
  | cons x d => exact srtF_perm s _ 1 _ (by simp; omega)

/-- Numbers of processes. -/
def InR (n : Nat) (d : List Int) : Prop := ∀ x, x ∈ d → 0 ≤ x ∧ x < n
def Small (s : List Int) : Prop := ∀ x, x ∈ s → 0 ≤ x ∧ x ≤ 1000000

theorem InR.get {n : Nat} {d : List Int} (h : InR n d) {i : Nat} (hi : i < d.length) : 0 ≤ d.getD i 0 ∧ d.getD i 0 < n := by
  rw [getD_get _ _ _ hi]
  exact h _ (List.getElem_mem hi)

theorem Small.get {s : List Int} (h : Small s) (i : Nat) : 0 ≤ s.getD i 0 ∧ s.getD i 0 ≤ 1000000 := by
  rcases Nat.lt_or_ge i s.length with g | g
  · rw [getD_get _ _ _ g]
    exact h _ (List.getElem_mem g)
  · rw [List.getD_eq_getElem?_getD, List.getElem?_eq_none g]
    simp

abbrev Op := Int × (Int × (Int × (Int × List Int)))
abbrev Res := Int × (Int × (Int × Int))

theorem ins_loop {m : Pool} {caps : List Int} {sc : List (List Op)} {tick : Int} {hs : List Hd} {next s : List Int} {res : List Res} (hok : okRows m .hnd hs) (hsm : Small s) {K : List Int → Prop} :
    ∀ (fu j : Nat) (d : List Int), j < d.length → d.length ≤ 1000 → j < fu → InR s.length d → K (mv s j d) → L.slices_insertionSortCmpFunc_h43_L1_R 0 m caps sc tick hs next s res fu j d K
  | 0, j, d, _, _, h, _, _ => by omega
  | fu + 1, 0, d, hj, hl, h, hd, hK => by
    show L.slices_insertionSortCmpFunc_h43_L1_b 0 m caps sc tick hs next s res ((0 : Nat) : Int) d _ K
    unfold L.slices_insertionSortCmpFunc_h43_L1_b
    refine ⟨fun h => by simp at h, fun h => by simp at h, ?_⟩
    exact cond_f (by simp [okAll]) hK
  | fu + 1, j + 1, d, hj, hl, h, hd, hK => by
    show L.slices_insertionSortCmpFunc_h43_L1_b 0 m caps sc tick hs next s res ((j + 1 : Nat) : Int) d _ K
    unfold L.slices_insertionSortCmpFunc_h43_L1_b
    have e1 : i64 (((j + 1 : Nat) : Int) - 1) = ((j : Nat) : Int) := by rw [i64_id (by omega) (by omega)]; omega
    rw [e1, Int.toNat_natCast, Int.toNat_natCast]
    have b1 : inB ((j + 1 : Nat) : Int) d.length := ⟨by omega, by omega⟩
    have b2 : inB ((j : Nat) : Int) d.length := ⟨by omega, by omega⟩
    refine ⟨fun _ => b1, fun _ => b2, cond_t (by simp [okAll]) ⟨hok, ⟨?_⟩⟩⟩
    have g1 := hd.get hj
    have g2 := hd.get (show j < d.length by omega)
    refine ⟨g1, g2, ?_⟩
    have h1 := hsm.get (d.getD (j + 1) 0).toNat
    have h2 := hsm.get (d.getD j 0).toNat
    rw [i64_id (by omega) (by omega)]
    unfold mv at hK
    by_cases hlt : s.getD (d.getD (j + 1) 0).toNat 0 < s.getD (d.getD j 0).toNat 0
    · rw [if_pos hlt] at hK
      refine cond_t (decide_eq_true (by omega)) ?_
      refine ⟨b2, b1, b1, ⟨by omega, by simp; omega⟩, ?_⟩
      have hp := swap_perm hj
      exact ins_loop hok hsm fu j _ (by simp; omega) (by simpa using hl) (by omega) (fun x hx => hd x (hp.mem_iff.1 hx)) hK
    · rw [if_neg hlt] at hK
      exact cond_f (decide_eq_false (by omega)) hK

theorem ins_outer {m : Pool} {caps : List Int} {sc : List (List Op)} {tick : Int} {hs : List Hd} {next s : List Int} {res : List Res} (hok : okRows m .hnd hs) (hsm : Small s) {K : List Int → Prop} :
    ∀ (fu k i : Nat) (d : List Int), (k = 0 ∧ d.length ≤ i ∧ i ≤ 1000 ∨ i + k = d.length) → d.length ≤ 1000 → k < fu → InR s.length d → K (srtF s k i d) → L.slices_insertionSortCmpFunc_h43_L2_R 0 d.length m caps sc tick hs next s res fu i d K
  | 0, k, i, d, _, _, h, _, _ => by omega
  | fu + 1, 0, i, d, hi, hl, h, hd, hK => by
    show L.slices_insertionSortCmpFunc_h43_L2_b 0 d.length m caps sc tick hs next s res i d _ K
    unfold L.slices_insertionSortCmpFunc_h43_L2_b
    exact cond_f (by simp; omega) hK
  | fu + 1, k + 1, i, d, hi, hl, h, hd, hK => by
    show L.slices_insertionSortCmpFunc_h43_L2_b 0 d.length m caps sc tick hs next s res i d _ K
    unfold L.slices_insertionSortCmpFunc_h43_L2_b
    refine cond_t (by simp; omega) ⟨⟨i + 1, ?_⟩⟩
    have hp := mv_perm s i d (by omega)
    refine ins_loop hok hsm (i + 1) i d (by omega) hl (by omega) hd ?_
    rw [i64_id (by omega) (by omega)]
    have := ins_outer (caps := caps) (sc := sc) (tick := tick) (next := next) (res := res) hok hsm (K := K) fu k (i + 1) (mv s i d) (.inr (by rw [hp.length_eq]; omega)) (by rw [hp.length_eq]; exact hl) (by omega) (fun x hx => hd x (hp.mem_iff.1 hx)) hK
    rw [hp.length_eq] at this
    exact_mod_cast this

/-- What slices.SortStableFunc computes of short lists. -/
theorem sort_ok {m : Pool} {caps : List Int} {sc : List (List Op)} {tick : Int} {hs : List Hd} {next s : List Int} {res : List Res} (hok : okRows m .hnd hs) (hsm : Small s) {d : List Int} (hd : InR s.length d) (hl : d.length < 20)
    {K : Pool → List Int → List Int → List (List Op) → Int → List Hd → List Int → List Int → List Res → Prop} (hK : K m (sortD s d) caps sc tick hs next s res) : L.slices_SortStableFunc_h41 m d caps sc tick hs next s res K := by
  refine ⟨⟨⟨⟨1, ?_⟩⟩⟩⟩
  refine cond_f (by simp; omega) ⟨⟨⟨d.length + 1, ?_⟩⟩⟩
  have fin : ∀ d', K m d' caps sc tick hs next s res → L.slices_stableCmpFunc_h42_L3 (d.length : Int) 20 m d' caps sc tick hs next s res (fun m21 data3 m22 m23 m24 m25 m26 m27 m28 => K m21 data3 m22 m23 m24 m25 m26 m27 m28) := by
    intro d' hK'
    refine ⟨⟨1, ?_⟩⟩
    exact cond_f (by simp; omega) hK'
  have := ins_outer (caps := caps) (sc := sc) (tick := tick) (next := next) (res := res) hok hsm (K := fun d' => L.slices_stableCmpFunc_h42_L3 (d.length : Int) 20 m d' caps sc tick hs next s res (fun m21 data3 m22 m23 m24 m25 m26 m27 m28 => K m21 data3 m22 m23 m24 m25 m26 m27 m28)) (d.length + 1) (d.length - 1) 1 d (by omega) (by omega) (by omega) hd (fin _ hK)
  exact_mod_cast this

end Dl
end Go.Proofs.Ytfkhdfmnhkndeaa

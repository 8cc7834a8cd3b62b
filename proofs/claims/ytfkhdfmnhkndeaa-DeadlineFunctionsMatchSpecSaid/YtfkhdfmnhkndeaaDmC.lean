/-
  Picking the process that has waited longest, again and again, goes through the sorted processes. Conditions: none.
-/
import Derived.Test.YtfkhdfmnhkndeaaDmB
set_option linter.unusedVariables false
set_option linter.unusedSimpArgs false
namespace Go.Proofs.Ytfkhdfmnhkndeaa
open Eng
namespace Dl

/-- This process comes before that one. -/
def Bef (s : List Int) (a b : Int) : Prop := s.getD a.toNat 0 < s.getD b.toNat 0 ∨ (s.getD a.toNat 0 = s.getD b.toNat 0 ∧ a < b)

theorem Bef.trans {s : List Int} {a b c : Int} (h : Bef s a b) (g : Bef s b c) : Bef s a c := by
  unfold Bef at *
  omega

theorem mv_sorted (s : List Int) (x : Int) : ∀ (j : Nat) (A B : List Int), A.length = j → A.Pairwise (Bef s) → (∀ a, a ∈ A → a < x) → ∃ A', mv s j (A ++ x :: B) = A' ++ B ∧ A'.Pairwise (Bef s) ∧ A'.Perm (A ++ [x])
  | 0, A, B, hl, _, _ => by
    obtain rfl := List.length_eq_zero_iff.1 hl
    exact ⟨[x], rfl, List.pairwise_singleton _ _, List.Perm.refl _⟩
  | j + 1, A, B, hl, hA, hx => by
    obtain ⟨C, y, rfl⟩ : ∃ C y, A = C ++ [y] := ⟨A.dropLast, A.getLast (by intro e; simp [e] at hl), (List.dropLast_concat_getLast _).symm⟩
    have hC : C.length = j := by simpa using hl
    obtain ⟨p1, p2, p3⟩ := List.pairwise_append.1 hA
    have e : C ++ [y] ++ x :: B = C ++ y :: x :: B := by simp
    have g1 : (C ++ y :: x :: B).getD (j + 1) 0 = x := by subst hC; simp [List.getD]
    have g0 : (C ++ y :: x :: B).getD j 0 = y := by subst hC; simp [List.getD]
    rw [e]
    unfold mv
    rw [g1, g0]
    split
    · rename_i hlt
      have e2 : ((C ++ y :: x :: B).set (j + 1) y).set j x = C ++ x :: (y :: B) := by subst hC; simp
      rw [e2]
      obtain ⟨C', h1, h2, h3⟩ := mv_sorted s x j C (y :: B) hC p1 (fun a ha => hx a (by simp [ha]))
      refine ⟨C' ++ [y], by rw [h1]; simp, List.pairwise_append.2 ⟨h2, List.pairwise_singleton _ _, ?_⟩, ?_⟩
      · intro a ha b hb
        obtain rfl := List.mem_singleton.1 hb
        rcases List.mem_append.1 (h3.mem_iff.1 ha) with h | h
        · exact p3 a h b (by simp)
        · obtain rfl := List.mem_singleton.1 h
          exact .inl hlt
      · refine (h3.append_right [y]).trans ?_
        rw [List.append_assoc, List.append_assoc]
        exact List.Perm.append_left C (List.Perm.swap y x [])
    · rename_i hlt
      have hyx : Bef s y x := by
        have := hx y (by simp)
        unfold Bef
        omega
      refine ⟨C ++ [y] ++ [x], by simp, List.pairwise_append.2 ⟨hA, List.pairwise_singleton _ _, ?_⟩, List.Perm.refl _⟩
      intro a ha b hb
      obtain rfl := List.mem_singleton.1 hb
      rcases List.mem_append.1 ha with h | h
      · exact (p3 a h y (by simp)).trans hyx
      · obtain rfl := List.mem_singleton.1 h
        exact hyx

theorem srtF_sorted (s : List Int) : ∀ (k : Nat) (A B : List Int), B.length = k → A.Pairwise (Bef s) → (∀ a, a ∈ A → ∀ b, b ∈ B → a < b) → B.Pairwise (· < ·) → (srtF s k A.length (A ++ B)).Pairwise (Bef s)
  | 0, A, B, hl, hA, _, _ => by
    obtain rfl := List.length_eq_zero_iff.1 hl
    simpa [srtF] using hA
  | k + 1, A, x :: B, hl, hA, hx, hB => by
    obtain ⟨A', h1, h2, h3⟩ := mv_sorted s x A.length A B rfl hA (fun a ha => hx a ha x (by simp))
    unfold srtF
    rw [h1]
    have hl' : A'.length = A.length + 1 := by rw [h3.length_eq]; simp
    rw [← hl']
    refine srtF_sorted s k A' B (by simpa using hl) h2 (fun a ha b hb => ?_) (List.pairwise_cons.1 hB).2
    rcases List.mem_append.1 (h3.mem_iff.1 ha) with h | h
    · exact hx a h b (by simp [hb])
    · obtain rfl := List.mem_singleton.1 h
      exact (List.pairwise_cons.1 hB).1 b hb

theorem sortD_sorted (s : List Int) {d : List Int} (h : d.Pairwise (· < ·)) : (sortD s d).Pairwise (Bef s) := by
  unfold sortD
  cases d with
  | nil => exact List.Pairwise.nil
  | cons x d =>
    have := srtF_sorted s d.length [x] d rfl (List.pairwise_singleton _ _) (fun a ha b hb => by obtain rfl := List.mem_singleton.1 ha; exact (List.pairwise_cons.1 h).1 b hb) (List.pairwise_cons.1 h).2
    simpa using this

theorem ordA_up (sc : List (List Op)) (S : St) : (ordA sc S).Pairwise (· < ·) := by
  unfold ordA
  refine List.Pairwise.map _ (fun a b h => ?_) (List.Pairwise.filter _ List.pairwise_lt_range)
  exact Int.ofNat_lt.2 h

/-- Until here, this is the process that comes first. -/
def Fst (d s : List Int) (p : Nat) (b : Int) : Prop := (b = -1 ∧ ∀ x, x ∈ d → (p : Int) ≤ x) ∨ (b ∈ d ∧ b < p ∧ ∀ x, x ∈ d → x < p → x = b ∨ Bef s b x)

theorem pk_fst {sc : List (List Op)} {nx sn : List Int} {seen : List Bool} {d : List Int} {n : Nat} (hd : ∀ x, x ∈ d → 0 ≤ x ∧ x < n) (hdue : ∀ q : Nat, q < n → due sc nx seen q = decide ((q : Int) ∈ d)) :
    ∀ (f p : Nat) (b : Int), p + f = n → Fst d sn p b → Fst d sn n (pk sc nx sn seen f p b)
  | 0, p, b, h, hf => by
    obtain rfl : p = n := by omega
    exact hf
  | f + 1, p, b, h, hf => by
    unfold pk
    rw [hdue p (by omega)]
    by_cases hm : (p : Int) ∈ d
    · rw [decide_eq_true hm]
      by_cases hb : b < 0 ∨ sn.getD p 0 < sn.getD b.toNat 0
      · rw [if_pos (by simpa using hb)]
        refine pk_fst hd hdue f (p + 1) p (by omega) (.inr ⟨hm, by omega, fun x hx hl => ?_⟩)
        rcases hf with ⟨h1, h2⟩ | ⟨h1, h2, h3⟩
        · exact .inl (by have := h2 x hx; omega)
        · by_cases hxp : x = p
          · exact .inl hxp
          · right
            have hb0 := (hd b h1).1
            have hlt : sn.getD p 0 < sn.getD b.toNat 0 := by omega
            left
            rw [Int.toNat_natCast]
            rcases h3 x hx (by omega) with rfl | g
            · exact hlt
            · unfold Bef at g
              omega
      · rw [if_neg (by simpa using hb)]
        refine pk_fst hd hdue f (p + 1) b (by omega) ?_
        rcases hf with ⟨h1, h2⟩ | ⟨h1, h2, h3⟩
        · omega
        · refine .inr ⟨h1, by omega, fun x hx hl => ?_⟩
          by_cases hxp : x = p
          · subst hxp
            right
            unfold Bef
            rw [Int.toNat_natCast]
            omega
          · exact h3 x hx (by omega)
    · rw [decide_eq_false hm, if_neg (by simp)]
      refine pk_fst hd hdue f (p + 1) b (by omega) ?_
      rcases hf with ⟨h1, h2⟩ | ⟨h1, h2, h3⟩
      · refine .inl ⟨h1, fun x hx => ?_⟩
        have := h2 x hx
        have hne : x ≠ p := fun e => hm (e ▸ hx)
        omega
      · refine .inr ⟨h1, by omega, fun x hx hl => h3 x hx ?_⟩
        have hne : x ≠ p := fun e => hm (e ▸ hx)
        omega

theorem pk_head {sc : List (List Op)} {nx sn : List Int} {seen : List Bool} {d : List Int} {n : Nat} (hd : ∀ x, x ∈ d → 0 ≤ x ∧ x < n) (hdue : ∀ q : Nat, q < n → due sc nx seen q = decide ((q : Int) ∈ d)) (hs : d.Pairwise (Bef sn)) :
    pk sc nx sn seen n 0 (-1) = d.headD (-1) := by
  have h := pk_fst (sn := sn) hd hdue n 0 (-1) (by omega) (.inl ⟨rfl, fun x hx => (hd x hx).1⟩)
  generalize pk sc nx sn seen n 0 (-1) = b at h
  cases d with
  | nil =>
    rcases h with ⟨h1, -⟩ | ⟨h1, -⟩
    · exact h1
    · simp at h1
  | cons a d =>
    show b = a
    have ha := hd a (by simp)
    rcases h with ⟨h1, h2⟩ | ⟨h1, h2, h3⟩
    · have := h2 a (by simp)
      omega
    · rcases h3 a (by simp) ha.2 with h | h
      · exact h.symm
      · rcases List.mem_cons.1 h1 with g | g
        · exact g
        · have := (List.pairwise_cons.1 hs).1 b g
          unfold Bef at h this
          omega

end Dl
end Go.Proofs.Ytfkhdfmnhkndeaa

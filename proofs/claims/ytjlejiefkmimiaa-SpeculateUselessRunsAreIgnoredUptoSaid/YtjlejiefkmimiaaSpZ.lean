/-
  Speculation: the result of a run that is not useful changes nothing. Conditions: none.
-/
import Derived.Test.YtjlejiefkmimiaaSpY
set_option linter.unusedVariables false
namespace Go.Proofs.Ytjlejiefkmimiaa
open Eng
namespace Sp

theorem fnd_some {l : List T} {x : T} {i : Int} {m : List Int} {b : Bool} (h : fnd l i m = some b) : fnd (l ++ [x]) i m = some b := by
  induction l with
  | nil => simp [fnd] at h
  | cons y r ih =>
    rw [List.cons_append, fnd]
    rw [fnd] at h
    split at h
    · next hc => rw [if_pos hc]; exact h
    · next hc => rw [if_neg hc]; exact ih h

theorem fnd_none {l : List T} {x : T} {i : Int} {m : List Int} (h : fnd l i m = none) (hx : eqr x.1.1 x.1.2 i m = false) : fnd (l ++ [x]) i m = none := by
  induction l with
  | nil => rw [List.nil_append, fnd, if_neg (by rw [hx]; simp)]; rfl
  | cons y r ih =>
    rw [List.cons_append, fnd]
    rw [fnd] at h
    split at h
    · cases h
    · next hc => rw [if_neg hc]; exact ih h

theorem dc_same {l : List T} {x : T} : ∀ (k : Nat) (i : Int) (a b : List Int), i = (a.length : Int) + b.length → eqr x.1.1 x.1.2 (((dc l k i a b).1.length : Int) + (dc l k i a b).2.length) (dc l k i a b).1 = false → dc (l ++ [x]) k i a b = dc l k i a b
  | 0, i, a, b, _, _ => rfl
  | k + 1, i, a, b, hi, h => by
    rw [dc] at h
    rw [dc, dc]
    cases hf : fnd l i a with
    | none =>
      rw [hf] at h
      rw [fnd_none hf (by rw [hi]; exact h)]
    | some c =>
      rw [hf] at h
      rw [fnd_some hf]
      cases c with
      | true => exact dc_same k (i + 1) (a ++ [i]) b (by simp; omega) h
      | false => exact dc_same k (i + 1) a (b ++ [i]) (by simp; omega) h

theorem dc_lt {l : List T} : ∀ (k : Nat) (i : Int) (a b : List Int), i = (a.length : Int) + b.length → (∀ y, y ∈ a → y < i) → ∀ y, y ∈ (dc l k i a b).1 → y < ((dc l k i a b).1.length : Int) + (dc l k i a b).2.length
  | 0, i, a, b, hi, h, y, hy => by
    have := h y hy
    show y < (a.length : Int) + b.length
    omega
  | k + 1, i, a, b, hi, h, y, hy => by
    rw [dc] at hy ⊢
    cases hf : fnd l i a with
    | none =>
      rw [hf] at hy
      have := h y hy
      show y < (a.length : Int) + b.length
      omega
    | some c =>
      rw [hf] at hy
      cases c with
      | true =>
        refine dc_lt k (i + 1) (a ++ [i]) b (by simp; omega) (fun z hz => ?_) y hy
        rcases List.mem_append.1 hz with h1 | h1
        · have := h z h1; omega
        · rw [List.mem_singleton.1 h1]; omega
      | false =>
        exact dc_lt k (i + 1) a (b ++ [i]) (by simp; omega) (fun z hz => by have := h z hz; omega) y hy

theorem same_dn {n : Int} {l : List T} {x : T} (h : usf n l x.1.1 x.1.2 = false) : dn n (l ++ [x]) = dn n l := by
  unfold dn
  refine dc_same _ 0 [] [] (by simp) ?_
  have hlt : ∀ y, y ∈ (dn n l).1 → y < ((dn n l).1.length : Int) + (dn n l).2.length := dc_lt n.toNat 0 [] [] (by simp) (by simp)
  cases he : eqr x.1.1 x.1.2 (((dc l n.toNat 0 [] []).1.length : Int) + (dc l n.toNat 0 [] []).2.length) (dc l n.toNat 0 [] []).1 with
  | false => rfl
  | true =>
    unfold eqr at he
    simp only [Bool.and_eq_true, beq_iff_eq, decide_eq_true_eq] at he
    obtain ⟨h1, h2⟩ := he
    have h1 : x.1.1 = ((dn n l).1.length : Int) + (dn n l).2.length := h1
    have h2 : x.1.2 = (dn n l).1 := h2
    unfold usf at h
    rw [decide_eq_true (by omega), h2, upto_all hlt] at h
    simp at h

theorem useless_true {n : Int} {l : List T} {last : Int} {w : List Int} {p : Bool} (hb : bigs l) (hw : big w.length) (hl : l.length ≤ 1048576) (K : Bool → Prop) (hK : K true) : L.law8_SpeculateUselessRunsAreIgnored n l last w p K := by
  have hk : ∀ b, b = true → K b := fun b h => h ▸ hK
  have hb2 : bigs (l ++ [((last, w), p)]) := fun x hx => by
    rcases List.mem_append.1 hx with h | h
    · exact hb x h
    · rw [List.mem_singleton.1 h]; exact hw
  have f1 : fits (([] : List T).length + l.length) := by unfold fits; simp; omega
  have f2 : fits ((([] : List T) ++ l).length + ([((last, w), p)] : List T).length) := by unfold fits; simp; omega
  -- the last decision, whatever was before
  have any : ∀ (Q : List Int → List Int → Int → Int → Prop), (∀ a b c i, c ≠ 0 → Q a b c i) → (rf n (l ++ [((last, w), p)]) = (0, 0) → Q (dn n (l ++ [((last, w), p)])).1 (dn n (l ++ [((last, w), p)])).2 0 0) → L.speculate_Decide n (l ++ [((last, w), p)]) Q := fun Q h1 h2 => by
    rcases rf_cases n (l ++ [((last, w), p)]) with hf | hf
    · exact Decide_ok hb2 hf (h2 hf)
    · exact Decide_bad hb2 hf (h1 _ _ _ _ hf)
  constructor
  unfold L.law8_SpeculateUselessRunsAreIgnored_B
  have leaf : ∀ (r r1 : List Int) (c c1 : Int) (u : Bool), (c = 0 → c1 = 0 → u = false → (r = (dn n l).1 ∧ r1 = (dn n l).2) ∧ rf n l = (0, 0) ∧ u = usf n l last w) →
      L.speculate_Decide n ((([] : List T) ++ l) ++ ([((last, w), p)] : List T)) (fun r3 r4 rCode2 rIndex2 => L.law8_speculateExample (fun r5 => (bif (!r5) then K false else (bif (bif (bif (bif (c != 0) then true else (c1 != 0)) then true else (rCode2 != 0)) then true else u) then K true else L.ref8_EqualInts r r3 (fun r6 => (bif r6 then L.ref8_EqualInts r1 r4 (fun r7 => K (bif true then r7 else false)) else K false)))))) := by
    intro r r1 c c1 u h
    refine any _ (fun a b c2 i hc => ?_) (fun hf => ?_)
    · refine example_ok _ (cond_f rfl (cond_t ?_ hK))
      have : (c2 != 0) = true := by simpa using hc
      rw [this]
      cases (bif (c != 0) then true else (c1 != 0)) <;> rfl
    · refine example_ok _ (cond_f rfl ?_)
      by_cases hc : c = 0
      · by_cases hc1 : c1 = 0
        · cases hu : u with
          | true => exact cond_t (by rw [hc, hc1]; rfl) hK
          | false =>
            obtain ⟨⟨rfl, rfl⟩, h1, h2⟩ := h hc hc1 hu
            have hs : dn n (l ++ [((last, w), p)]) = dn n l := same_dn (by rw [← h2]; exact hu)
            have hlen := dn_len h1
            rw [hs]
            refine cond_f (by rw [hc, hc1]; rfl) (EqualInts_ok (by unfold big; omega) ?_)
            rw [decide_eq_true rfl]
            exact cond_t rfl (EqualInts_ok (by unfold big; omega) (hk _ (by simp)))
        · exact cond_t (by rw [hc]; simp [hc1]) hK
      · exact cond_t (by simp [hc]) hK
  rcases rf_cases n l with hf | hf
  · refine Decide_ok hb hf (Useful_ok hb hw hf (fun hc => ?_) (fun hc => ?_))
    · have hD := leaf (dc l n.toNat 0 [] []).1 (dc l n.toNat 0 [] []).2 0 (rcode n last w) false (fun _ h _ => absurd h hc)
      repeat' apply And.intro
      all_goals first | exact f1 | exact f2 | exact hD
    · have hD := leaf (dc l n.toNat 0 [] []).1 (dc l n.toNat 0 [] []).2 0 0 (usf n l last w) (fun _ _ _ => ⟨⟨rfl, rfl⟩, hf, rfl⟩)
      repeat' apply And.intro
      all_goals first | exact f1 | exact f2 | exact hD
  · refine Decide_bad hb hf (Useful_bad hb hf ?_)
    have hD := leaf [] [] (rf n l).1 (rf n l).1 false (fun h _ _ => absurd h hf)
    repeat' apply And.intro
    all_goals first | exact f1 | exact f2 | exact hD

theorem bulkL_ge {α : Type} {f : α → Nat} (hf : ∀ a, 1 ≤ f a) : ∀ (l : List α), l.length ≤ bulkL f l
  | [] => Nat.zero_le _
  | a :: l => by
    have := bulkL_ge hf l
    have := hf a
    simp only [bulkL, List.length_cons]
    omega

end Sp

theorem SpeculateUselessRunsAreIgnored_true (xs : ArgDen [(false, (.int .i64)), (false, (.slice (.pair (.pair (.int .i64) (.slice (.int .i64))) .bool))), (true, (.pair (.int .i64) (.slice (.int .i64)))), (false, .bool)]) (hw : WfAll _ xs) (hb : bulkAll _ xs ≤ 1048576) (K : Bool → Prop) (hK : K true) : L.law8_SpeculateUselessRunsAreIgnored xs.1 xs.2.1 xs.2.2.1.1 xs.2.2.1.2 xs.2.2.2.1 K := by
  have h1 : xs.2.1.length ≤ bulkL (bulk (.pair (.pair (.int .i64) (.slice (.int .i64))) .bool)) xs.2.1 := Sp.bulkL_ge (fun s => Nat.le_add_left 1 _) _
  have h2 : 1 + ((bulkL (bulk (.pair (.pair (.int .i64) (.slice (.int .i64))) .bool)) xs.2.1 + 1) + (bulk (.pair (.int .i64) (.slice (.int .i64))) xs.2.2.1 + (bulk .bool xs.2.2.2.1 + 0))) ≤ 1048576 := hb
  exact Sp.useless_true (fun x hx => Sp.big_of (hw.2.1.2 x hx).1.2.1) (Sp.big_of hw.2.2.1.2.1) (Nat.le_trans h1 (by omega)) K hK

end Go.Proofs.Ytjlejiefkmimiaa

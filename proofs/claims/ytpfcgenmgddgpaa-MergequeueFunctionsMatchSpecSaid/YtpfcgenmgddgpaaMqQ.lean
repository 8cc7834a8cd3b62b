/-
  The reference: looking up, cutting, inserting. Conditions: none.
-/
import Derived.Test.YtpfcgenmgddgpaaMqN
namespace Go.Proofs.Ytpfcgenmgddgpaa
open Eng
namespace Mq

/-- The state of an entry as a number. -/
def stt (e : Ent) : Int := if e.2.2.1 = true then 1 else if e.2.2.2.1 = true then 2 else if e.2.2.2.2.1 = true then 3 else 0
def sts (es : List Ent) : List Int := es.map stt

theorem sts_app (a b : List Ent) : sts (a ++ b) = sts a ++ sts b := by simp [sts]
theorem len_chg (a : List Ent) : (chg a).length = a.length := by simp [chg]
theorem len_prs (a : List Ent) : (prs a).length = a.length := by simp [prs]
theorem len_sts (a : List Ent) : (sts a).length = a.length := by simp [sts]
theorem chg_at {es : List Ent} {i : Nat} (h : i < es.length) : (chg es).getD i 0 = es[i].1 := by simp [chg, List.getD, h]
theorem prs_at {es : List Ent} {i : Nat} (h : i < es.length) : (prs es).getD i 0 = es[i].2.1 := by simp [prs, List.getD, h]
theorem sts_at {es : List Ent} {i : Nat} (h : i < es.length) : (sts es).getD i 0 = stt es[i] := by simp [sts, List.getD, h]

theorem rix_loop {c : Int} {es : List Ent} (hb : es.length ≤ 1000) {Kx : Prop} {Kr : Int → Prop} (hx : pos c es = -1 → Kx) (hr : ∀ k : Nat, pos c es = k → Kr k) :
    ∀ (fu i : Nat), i ≤ es.length → es.length - i < fu → posA c (es.drop i) i = pos c es → L.ref8_Queue_Index_L1_R c (chg es) fu i Kx Kr
  | 0, i, _, h, _ => by omega
  | fu + 1, i, hi, h, he => by
    show L.ref8_Queue_Index_L1_b c (chg es) i _ Kx Kr
    unfold L.ref8_Queue_Index_L1_b
    rw [len_chg]
    rcases Nat.lt_or_ge i es.length with g | g
    · refine cond_t (by simp; omega) ⟨⟨by omega, by omega⟩, ?_⟩
      rw [Int.toNat_natCast, i64_succ (i := i) (by omega), chg_at g]
      rw [List.drop_eq_getElem_cons g] at he
      simp only [posA] at he
      by_cases hp : es[i].1 = c
      · rw [if_pos hp] at he
        exact cond_t (by simpa using hp) (hr i he.symm)
      · rw [if_neg hp] at he
        exact cond_f (by simpa using hp) (rix_loop hb hx hr fu (i + 1) g (by omega) he)
    · obtain rfl : i = es.length := by omega
      rw [List.drop_length] at he
      exact cond_f (by simp) (hx he.symm)

theorem rix_ok {c : Int} {es : List Ent} {ld rj : List Int} (hb : es.length ≤ 1000) {K : Int → Prop} (hK : K (pos c es)) : L.ref8_Queue_Index (chg es) (prs es) (sts es) ld rj c K :=
  ⟨⟨⟨es.length + 1, rix_loop hb (fun h => by rw [h] at hK; exact hK) (fun k h => by rw [h] at hK; exact hK) (es.length + 1) 0 (by omega) (by omega) rfl⟩⟩⟩

/-- What is left when an entry is cut. -/
def cutR (i : Int) (d : Bool) : List Ent → Nat → List Ent
  | [], _ => []
  | e :: r, k => if (k : Int) = i then cutR i d r (k + 1) else (if (k : Int) > i ∧ d = true then clrE e else e) :: cutR i d r (k + 1)

theorem stt_clr (e : Ent) : stt (clrE e) = 0 := rfl

theorem cut_loop {i : Int} {d : Bool} {es : List Ent} (hb : es.length ≤ 1000) {K : List Int → List Int → List Int → Prop} {F : List Ent} (hK : K (chg F) (prs F) (sts F)) :
    ∀ (fu k : Nat) (a : List Ent), k ≤ es.length → es.length - k < fu → a.length ≤ k → a ++ cutR i d (es.drop k) k = F → L.ref8_Queue_cut_h23_L1_R i d (chg es) (prs es) (sts es) fu k (chg a) (prs a) (sts a) K
  | 0, k, a, _, h, _, _ => by omega
  | fu + 1, k, a, hk, h, ha, hF => by
    show L.ref8_Queue_cut_h23_L1_b i d (chg es) (prs es) (sts es) k (chg a) (prs a) (sts a) _ K
    unfold L.ref8_Queue_cut_h23_L1_b
    rw [len_chg, len_sts]
    rcases Nat.lt_or_ge k es.length with g | g
    · have hin : ∀ n : Nat, n = es.length → inB (k : Int) n := fun n hn => ⟨by omega, by omega⟩
      refine cond_t (by simp; omega) ⟨hin _ rfl, ?_⟩
      rw [Int.toNat_natCast, i64_succ (i := k) (by omega), sts_at g]
      rw [List.drop_eq_getElem_cons g] at hF
      simp only [cutR] at hF
      have step : ∀ (e : Ent), e.1 = es[k].1 → e.2.1 = es[k].2.1 → ((k : Int) ≠ i → a ++ e :: cutR i d (es.drop (k + 1)) (k + 1) = F) → ((k : Int) = i → a ++ cutR i d (es.drop (k + 1)) (k + 1) = F) →
          L.ref8_Queue_cut_h23_J2 i k (stt e) (chg es) (prs es) (chg a) (prs a) (sts a) (fun m3 m4 m5 => L.ref8_Queue_cut_h23_L1_R i d (chg es) (prs es) (sts es) fu ((k + 1 : Nat) : Int) m3 m4 m5 K) := fun e h1 h2 h3 h4 => by
        refine ⟨?_⟩
        unfold L.ref8_Queue_cut_h23_J2_B
        by_cases hi : (k : Int) = i
        · exact cond_f (by rw [hi]; simp) (cut_loop hb hK fu (k + 1) a g (by omega) (by omega) (h4 hi))
        · refine cond_t (by simpa using hi) ⟨hin _ (len_chg es), by unfold fits; simp [len_chg]; omega, hin _ (len_prs es), by unfold fits; simp [len_prs]; omega, by unfold fits; simp [len_sts]; omega, ?_⟩
          rw [Int.toNat_natCast, chg_at g, prs_at g, ← h1, ← h2]
          have e1 : chg a ++ [e.1] = chg (a ++ [e]) := by rw [chg_app]; rfl
          have e2 : prs a ++ [e.2.1] = prs (a ++ [e]) := by rw [prs_app]; rfl
          have e3 : sts a ++ [stt e] = sts (a ++ [e]) := by rw [sts_app]; rfl
          rw [e1, e2, e3]
          exact cut_loop hb hK fu (k + 1) (a ++ [e]) g (by omega) (by simp; omega) (by rw [List.append_assoc]; exact h3 hi)
      by_cases hd : (k : Int) > i ∧ d = true
      · refine cond_t (by simp only [band, Bool.and_eq_true, decide_eq_true_eq]; exact hd) ?_
        have := step (clrE es[k]) rfl rfl (fun hi => by rw [if_neg hi, if_pos hd] at hF; exact hF) (fun hi => by rw [if_pos hi] at hF; exact hF)
        rw [stt_clr] at this
        exact this
      · refine cond_f ?_ (step es[k] rfl rfl (fun hi => by rw [if_neg hi, if_neg hd] at hF; exact hF) (fun hi => by rw [if_pos hi] at hF; exact hF))
        simp only [band, Bool.and_eq_false_iff, decide_eq_false_iff_not]
        by_cases h1 : (k : Int) > i
        · right
          cases d with
          | true => exact absurd ⟨h1, rfl⟩ hd
          | false => rfl
        · exact .inl h1
    · obtain rfl : k = es.length := by omega
      rw [List.drop_length] at hF
      simp only [cutR, List.append_nil] at hF
      subst hF
      exact cond_f (by simp) hK

theorem cut_ok {i : Int} {d : Bool} {es : List Ent} {ld rj : List Int} (hb : es.length ≤ 1000) {K : List Int → List Int → List Int → List Int → List Int → Prop}
    (hK : K ld rj (chg (cutR i d es 0)) (prs (cutR i d es 0)) (sts (cutR i d es 0))) : L.ref8_Queue_cut_h23 (chg es) (prs es) (sts es) ld rj i d K :=
  ⟨⟨⟨es.length + 1, cut_loop (F := cutR i d es 0) hb hK (es.length + 1) 0 [] (by omega) (by omega) (by simp) rfl⟩⟩⟩

theorem cutR_after {i : Nat} {d : Bool} : ∀ (es : List Ent) (k : Nat), i < k → cutR i d es k = es.map fun e => if d = true then clrE e else e
  | [], _, _ => rfl
  | e :: r, k, h => by
    simp only [cutR, List.map_cons]
    rw [if_neg (by omega), cutR_after r (k + 1) (by omega)]
    congr 1
    by_cases hd : d = true
    · rw [if_pos ⟨by omega, hd⟩, if_pos hd]
    · rw [if_neg (fun g => hd g.2), if_neg hd]

theorem cutR_at {i : Nat} {d : Bool} : ∀ (es : List Ent) (k : Nat), k ≤ i → cutR i d es k = es.take (i - k) ++ (es.drop (i - k + 1)).map fun e => if d = true then clrE e else e
  | [], k, _ => by simp [cutR]
  | e :: r, k, h => by
    simp only [cutR]
    by_cases hk : k = i
    · subst hk
      rw [if_pos rfl, cutR_after r (k + 1) (by omega)]
      simp
    · rw [if_neg (by omega), cutR_at r (k + 1) (by omega), if_neg (by omega), show i - k = i - (k + 1) + 1 from by omega]
      simp

theorem cutR_t (i : Nat) (es : List Ent) : cutR i true es 0 = es.take i ++ (es.drop (i + 1)).map clrE := by
  rw [cutR_at es 0 (Nat.zero_le _)]
  simp
theorem cutR_f (i : Nat) (es : List Ent) : cutR i false es 0 = es.take i ++ es.drop (i + 1) := by
  rw [cutR_at es 0 (Nat.zero_le _)]
  simp
theorem cutR_no : ∀ (es : List Ent) (k : Nat), cutR (-1) false es k = es
  | [], _ => rfl
  | e :: r, k => by
    simp only [cutR]
    rw [if_neg (by omega), if_neg (by simp), cutR_no r (k + 1)]

end Mq
end Go.Proofs.Ytpfcgenmgddgpaa

/-
  Texts, paths, trees and patches of trees: what the functions compute. Conditions: none.
-/
import Derived.Test.YtkpplfghhciacaaDoorTsQ
import Derived.Test.YtkpplfghhciacaaDoorLaA
set_option linter.unusedVariables false
set_option linter.unusedSimpArgs false
namespace Go.Proofs.YtkpplfghhciacaaDoor
open Eng Bb
namespace Tp

abbrev Txt := List ByteArray
abbrev File := ByteArray × List ByteArray
abbrev Tree := List File
abbrev Hunk := Int × (List ByteArray × List ByteArray)
abbrev Chg := Int × (ByteArray × (ByteArray × (List ByteArray × List Hunk)))
abbrev Patch := List Chg

abbrev noFile : File := (ByteArray.empty, [])
abbrev noChg : Chg := (0, (ByteArray.empty, (ByteArray.empty, ([], []))))

/-- A fault with another index. -/
def sec (f : Int × Int) (i : Int) : Int × Int := if f = (0, 0) then (0, 0) else (f.1, i)

def linL : Nat → Txt → Int × Int
  | _, [] => (0, 0)
  | i, s :: r => if 80 < s.size then (2, i) else if 0 ≤ La.idx_R s 10 then (5, i) else linL (i + 1) r
/-- The fault of a text. -/
def lin (l : Txt) : Int × Int := if 120 < l.length then (2, -1) else linL 0 l

theorem lin_loop {l : Txt} (hl : l.length ≤ 120) {K : Int → Int → Prop} : ∀ (fu i : Nat), i ≤ l.length → l.length - i < fu → K (linL i (l.drop i)).1 (linL i (l.drop i)).2 → L.lines_Validate_L1_R l (l.length : Int) fu i (K 0 0) K
  | 0, i, _, h, _ => by omega
  | fu + 1, i, hi, h, hK => by
    show L.lines_Validate_L1_b l _ i _ _ _
    unfold L.lines_Validate_L1_b
    rcases Nat.lt_or_ge i l.length with g | g
    · rw [drop_cons ByteArray.empty g, linL] at hK
      refine cond_t (by simp; omega) ⟨inB_of (by omega) (by omega), ?_⟩
      simp only [Int.toNat_natCast]
      by_cases c1 : 80 < (l.getD i ByteArray.empty).size
      · rw [if_pos c1] at hK; exact cond_t (decide_eq_true (by omega)) hK
      · rw [if_neg c1] at hK
        refine cond_f (decide_eq_false (by omega)) ⟨?_⟩
        show (bif decide (La.idx_R (l.getD i ByteArray.empty) 10 ≥ 0) then K 5 i else _)
        by_cases c2 : 0 ≤ La.idx_R (l.getD i ByteArray.empty) 10
        · rw [if_pos c2] at hK; exact cond_t (decide_eq_true c2) hK
        · rw [if_neg c2] at hK
          refine cond_f (decide_eq_false c2) ?_
          rw [i64_id (by omega) (by omega)]
          exact lin_loop hl fu (i + 1) (by omega) (by omega) hK
    · rw [List.drop_eq_nil_of_le g] at hK
      exact cond_f (by simp; omega) hK

theorem lin_ok {l : Txt} {K : Int → Int → Prop} (hK : K (lin l).1 (lin l).2) : L.lines_Validate l K := by
  constructor
  unfold L.lines_Validate_B
  unfold lin at hK
  by_cases c : 120 < l.length
  · rw [if_pos c] at hK; exact cond_t (by simp; omega) hK
  · rw [if_neg c] at hK
    exact cond_f (by simp; omega) ⟨⟨l.length + 1, lin_loop (by omega) _ 0 (by omega) (by omega) hK⟩⟩

theorem sec_ok {f : Int × Int} {i : Int} {K : Int → Int → Prop} (hK : K (sec f i).1 (sec f i).2) : (bif (!((f.1 == 0) && ((f.2 == 0) && true))) then K f.1 i else K 0 0) := by
  unfold sec at hK
  by_cases c : f = (0, 0)
  · rw [if_pos c] at hK; exact cond_f (fault0 (by rw [← c])) hK
  · rw [if_neg c] at hK; exact cond_t (fault1 (by exact c)) hK

theorem linS_ok {l : Txt} {i : Int} {K : Int → Int → Prop} (hK : K (sec (lin l) i).1 (sec (lin l) i).2) : L.lines_Second l i K := ⟨lin_ok (sec_ok hK)⟩

def hp (a p : ByteArray) : Bool := decide (p.size ≤ a.size) && ((a.extract 0 p.size).toList == p.toList)

theorem hp_ok {a p : ByteArray} {K : Bool → Prop} (hK : K (hp a p)) : L.strings_HasPrefix a p K := by
  refine ⟨⟨fun h => ⟨by omega, ?_⟩, ?_⟩⟩
  · simp at h; omega
  · unfold hp at hK
    by_cases c : p.size ≤ a.size
    · rw [decide_eq_true c, Bool.true_and] at hK
      rw [decide_eq_true (by omega), cond_true, Int.toNat_natCast]; exact hK
    · rw [decide_eq_false c, Bool.false_and] at hK
      rw [decide_eq_false (by omega), cond_false]; exact hK

/-- Whether one of two paths contains the other one. -/
def rel (a b : ByteArray) : Bool := (a.toList == b.toList) || (hp a (b ++ L.str5) || hp b (a ++ L.str5))

theorem size_ok {a : ByteArray} (h : a.size ≤ 60) : ((a.size + L.str5.size : Nat) : Int) ≤ IntKind.i64.max := by
  have : L.str5.size = 1 := rfl
  rw [this]
  have : IntKind.i64.max = 9223372036854775807 := by decide
  omega

theorem rel_ok {a b : ByteArray} (ha : a.size ≤ 60) (hb : b.size ≤ 60) {K : Bool → Prop} (hK : K (rel a b)) : L.treepatch_Related a b K := by
  refine ⟨⟨fun _ => size_ok hb, ?_⟩⟩
  unfold rel at hK
  cases c1 : (a.toList == b.toList) with
  | true => rw [c1, Bool.true_or] at hK; exact ⟨fun _ => size_ok ha, hK⟩
  | false =>
    rw [c1, Bool.false_or] at hK
    refine hp_ok ⟨fun _ => size_ok ha, ?_⟩
    simp only [cond_false]
    cases c2 : hp a (b ++ L.str5) with
    | true => rw [c2, Bool.true_or] at hK; exact hK
    | false => rw [c2, Bool.false_or] at hK; exact hp_ok hK

/-- What a tree must bear for the functions to run. -/
def Inv (t : Tree) : Prop := t.length ≤ 24 ∧ ∀ f, f ∈ t → f.1.size ≤ 60 ∧ f.2.length ≤ 120
def Pth (t : Tree) : Prop := ∀ f, f ∈ t → f.1.size ≤ 60

def clashL (path : ByteArray) (ex : Int) : Nat → Tree → Bool
  | _, [] => false
  | i, f :: r => if (i : Int) != ex && rel f.1 path then true else clashL path ex (i + 1) r
def clash (t : Tree) (path : ByteArray) (ex : Int) : Bool := clashL path ex 0 t

theorem clash_loop {t : Tree} {path : ByteArray} {ex : Int} (hl : t.length ≤ 24) (hp : Pth t) (hq : path.size ≤ 60) {K : Bool → Prop} : ∀ (fu i : Nat), i ≤ t.length → t.length - i < fu → K (clashL path ex i (t.drop i)) → L.treepatch_Clash_L1_R path ex t (t.length : Int) fu i (K false) K
  | 0, i, _, h, _ => by omega
  | fu + 1, i, hi, h, hK => by
    show L.treepatch_Clash_L1_b path ex t _ i _ _ _
    unfold L.treepatch_Clash_L1_b
    rcases Nat.lt_or_ge i t.length with g | g
    · rw [drop_cons noFile g, clashL] at hK
      refine cond_t (by simp; omega) ⟨inB_of (by omega) (by omega), ?_⟩
      simp only [Int.toNat_natCast]
      have next : K (clashL path ex (i + 1) (t.drop (i + 1))) → L.treepatch_Clash_L1_R path ex t (t.length : Int) fu (i64 ((i : Int) + 1)) (K false) K := fun hK => by
        rw [i64_id (by omega) (by omega)]
        exact clash_loop hl hp hq fu (i + 1) (by omega) (by omega) hK
      cases c1 : ((i : Int) != ex) with
      | false =>
        rw [c1, Bool.false_and] at hK
        exact cond_f rfl ⟨cond_f rfl (next hK)⟩
      | true =>
        refine cond_t rfl (rel_ok (hp _ (getD_mem noFile g)) hq ⟨?_⟩)
        rw [c1, Bool.true_and] at hK
        show (bif rel _ _ then K true else _)
        cases c2 : rel (t.getD i noFile).1 path with
        | true => rw [c2] at hK; exact cond_t rfl hK
        | false => rw [c2] at hK; exact cond_f rfl (next hK)
    · rw [List.drop_eq_nil_of_le g] at hK
      exact cond_f (by simp; omega) hK

theorem clash_ok {t : Tree} {path : ByteArray} {ex : Int} (hl : t.length ≤ 24) (hp : Pth t) (hq : path.size ≤ 60) {K : Bool → Prop} (hK : K (clash t path ex)) : L.treepatch_Clash t path ex K :=
  ⟨⟨⟨t.length + 1, clash_loop hl hp hq _ 0 (by omega) (by omega) hK⟩⟩⟩

def le (a b : ByteArray) : Bool := Op.bytesLess a.toList b.toList || (a.toList == b.toList)

def valL (t : Tree) : Nat → Tree → Int × Int
  | _, [] => (0, 0)
  | i, f :: r => if La.vp_R f.1 = false then (12, i) else if (decide (0 < i) && le f.1 (t.getD (i - 1) noFile).1) = true then (5, i) else if clash (t.take i) f.1 (-1) = true then (7, i)
    else if sec (lin f.2) i = (0, 0) then valL t (i + 1) r else sec (lin f.2) i
/-- The fault of a tree. -/
def val (t : Tree) : Int × Int := if 24 < t.length then (2, -1) else valL t 0 t

theorem vp_size {s : ByteArray} (h : La.vp_R s = true) : s.size ≤ 60 := by
  unfold La.vp_R at h
  simp only [Bool.and_eq_true, decide_eq_true_eq] at h
  exact h.1

theorem val_loop {t : Tree} (hl : t.length ≤ 24) {K : Int → Int → Prop} : ∀ (fu i : Nat), i ≤ t.length → t.length - i < fu → Pth (t.take i) → K (valL t i (t.drop i)).1 (valL t i (t.drop i)).2 → L.treepatch_Validate_L1_R t (t.length : Int) t fu i (K 0 0) K
  | 0, i, _, h, _, _ => by omega
  | fu + 1, i, hi, h, hp, hK => by
    show L.treepatch_Validate_L1_b t _ t i _ _ _
    unfold L.treepatch_Validate_L1_b
    rcases Nat.lt_or_ge i t.length with g | g
    · rw [drop_cons noFile g, valL] at hK
      refine cond_t (by simp; omega) ⟨inB_of (by omega) (by omega), ⟨?_⟩⟩
      simp only [Int.toNat_natCast]
      show (bif (!La.vp_R _) then _ else _)
      cases c1 : La.vp_R (t.getD i noFile).1 with
      | false => rw [if_pos c1] at hK; exact cond_t rfl hK
      | true =>
        rw [if_neg (by rw [c1]; decide)] at hK
        have e1 : (decide ((i : Int) > 0)) = decide (0 < i) := by simp
        refine cond_f rfl ⟨fun h0 => ?_, ?_⟩
        · simp at h0
          rw [i64_id (by omega) (by omega)]
          exact inB_of (by omega) (by omega)
        · rw [e1]
          have c2' : (bif decide (0 < i) then (Op.bytesLess (t.getD i noFile).1.toList (t.getD (i64 ((i : Int) - 1)).toNat noFile).1.toList || ((t.getD i noFile).1.toList == (t.getD (i64 ((i : Int) - 1)).toNat noFile).1.toList)) else false) = (decide (0 < i) && le (t.getD i noFile).1 (t.getD (i - 1) noFile).1) := by
            by_cases h0 : 0 < i
            · have e2 : (i64 ((i : Int) - 1)).toNat = i - 1 := by rw [i64_id (by omega) (by omega)]; omega
              rw [decide_eq_true h0, e2]; rfl
            · rw [decide_eq_false h0]; rfl
          rw [c2']
          cases c2 : (decide (0 < i) && le (t.getD i noFile).1 (t.getD (i - 1) noFile).1) with
          | true => rw [if_pos c2] at hK; exact hK
          | false =>
            rw [if_neg (by rw [c2]; decide)] at hK
            refine ⟨⟨by omega, by omega⟩, clash_ok (by simp; omega) hp (vp_size c1) ?_⟩
            cases c3 : clash (t.take i) (t.getD i noFile).1 (-1) with
            | true => rw [if_pos c3] at hK; exact cond_t rfl hK
            | false =>
              rw [if_neg (by rw [c3]; decide)] at hK
              refine cond_f rfl (linS_ok ?_)
              by_cases c4 : sec (lin (t.getD i noFile).2) i = (0, 0)
              · rw [if_pos c4] at hK
                refine cond_f (fault0 (by exact c4)) ?_
                rw [i64_id (by omega) (by omega)]
                refine val_loop hl fu (i + 1) (by omega) (by omega) (fun f hf => ?_) hK
                rw [List.take_succ_eq_append_getElem g] at hf
                rcases List.mem_append.1 hf with hf | hf
                · exact hp f hf
                · rw [List.mem_singleton.1 hf]
                  rw [List.getD_eq_getElem?_getD, List.getElem?_eq_getElem g] at c1
                  exact vp_size c1
              · rw [if_neg c4] at hK
                exact cond_t (fault1 (by exact c4)) hK
    · rw [List.drop_eq_nil_of_le g] at hK
      exact cond_f (by simp; omega) hK

theorem val_ok {t : Tree} {K : Int → Int → Prop} (hK : K (val t).1 (val t).2) : L.treepatch_Validate t K := by
  constructor
  unfold L.treepatch_Validate_B
  unfold val at hK
  by_cases c : 24 < t.length
  · rw [if_pos c] at hK; exact cond_t (by simp; omega) hK
  · rw [if_neg c] at hK
    exact cond_f (by simp; omega) ⟨⟨t.length + 1, val_loop (by omega) _ 0 (by omega) (by omega) (fun f hf => by simp at hf) hK⟩⟩

theorem valS_ok {t : Tree} {i : Int} {K : Int → Int → Prop} (hK : K (sec (val t) i).1 (sec (val t) i).2) : L.treepatch_Second t i K := ⟨val_ok (sec_ok hK)⟩

end Tp
end Go.Proofs.YtkpplfghhciacaaDoor

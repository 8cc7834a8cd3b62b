/-
  Patches of texts and of trees: their faults, and what a patch of a text leaves. Conditions: none.
-/
import Derived.Test.YtkpplfghhciacaaDoorLaT
set_option linter.unusedVariables false
set_option linter.unusedSimpArgs false
namespace Go.Proofs.YtkpplfghhciacaaDoor
open Eng Bb
namespace Tp

abbrev noHunk : Hunk := (0, ([], []))

theorem lin_len {l : Txt} (h : lin l = (0, 0)) : l.length ≤ 120 := by
  unfold lin at h
  by_cases c : 120 < l.length
  · rw [if_pos c] at h; simp at h
  · omega

/-- The code of a hunk behind an end. -/
def hk (h : Hunk) (e : Int) : Int :=
  if h.1 < 0 ∨ 120 < h.1 then 3 else if lin h.2.1 ≠ (0, 0) then (lin h.2.1).1 else if lin h.2.2 ≠ (0, 0) then (lin h.2.2).1 else
    if h.2.1.length + h.2.2.length = 0 ∨ h.1 ≤ e then 5 else if 120 < h.1 + h.2.1.length then 3 else 0

theorem end_ok {h : Hunk} (h0 : 0 ≤ h.1) (h1 : h.1 ≤ 120) (h2 : h.2.1.length ≤ 120) {K : Int → Prop} (hK : K (h.1 + h.2.1.length)) : L.textpatch_End h.1 h.2.1 h.2.2 K := by
  constructor
  unfold L.textpatch_End_B
  rw [i64_id (by omega) (by omega)]; exact hK

theorem hk_ok {h : Hunk} {e : Int} {K : Int → Prop} (hK : K (hk h e)) : L.textpatch_hunk h.1 h.2.1 h.2.2 e K := by
  constructor
  unfold L.textpatch_hunk_B
  unfold hk at hK
  by_cases c1 : h.1 < 0 ∨ 120 < h.1
  · rw [if_pos c1] at hK
    exact cond_t (by simp only [bor, Bool.or_eq_true, decide_eq_true_eq]; omega) hK
  · rw [if_neg c1] at hK
    refine cond_f (by simp only [bor, Bool.or_eq_false_iff, decide_eq_false_iff_not]; omega) ⟨⟨3, ?_⟩⟩
    show L.textpatch_hunk_L1_b h.2.1 h.2.2 0 _ _ _
    unfold L.textpatch_hunk_L1_b
    refine cond_t rfl ⟨inB_of (by omega) (by omega), lin_ok ?_⟩
    show (bif (!(((lin h.2.1).1 == 0) && (((lin h.2.1).2 == 0) && true))) then K (lin h.2.1).1 else _)
    by_cases c2 : lin h.2.1 ≠ (0, 0)
    · rw [if_pos c2] at hK
      exact cond_t (fault1 (by exact c2)) hK
    · rw [if_neg c2] at hK
      have c2' : lin h.2.1 = (0, 0) := by simpa using c2
      refine cond_f (fault0 (by exact c2')) ?_
      show L.textpatch_hunk_L1_b h.2.1 h.2.2 1 _ _ _
      unfold L.textpatch_hunk_L1_b
      refine cond_t rfl ⟨inB_of (by omega) (by omega), lin_ok ?_⟩
      show (bif (!(((lin h.2.2).1 == 0) && (((lin h.2.2).2 == 0) && true))) then K (lin h.2.2).1 else _)
      by_cases c3 : lin h.2.2 ≠ (0, 0)
      · rw [if_pos c3] at hK
        exact cond_t (fault1 (by exact c3)) hK
      · rw [if_neg c3] at hK
        have c3' : lin h.2.2 = (0, 0) := by simpa using c3
        refine cond_f (fault0 (by exact c3')) ?_
        show L.textpatch_hunk_L1_b h.2.1 h.2.2 2 _ _ _
        unfold L.textpatch_hunk_L1_b
        refine cond_f rfl ?_
        have l1 := lin_len c2'
        have l2 := lin_len c3'
        rw [i64_id (by omega) (by omega)]
        by_cases c4 : h.2.1.length + h.2.2.length = 0 ∨ h.1 ≤ e
        · rw [if_pos c4] at hK
          exact cond_t (by simp only [bor, Bool.or_eq_true, decide_eq_true_eq, beq_iff_eq]; omega) hK
        · rw [if_neg c4] at hK
          refine cond_f (by simp only [bor, Bool.or_eq_false_iff, decide_eq_false_iff_not, beq_eq_false_iff_ne]; omega) (end_ok (by omega) (by omega) l1 ?_)
          by_cases c5 : 120 < h.1 + h.2.1.length
          · rw [if_pos c5] at hK; exact cond_t (decide_eq_true (by omega)) hK
          · rw [if_neg c5] at hK; exact cond_f (decide_eq_false (by omega)) hK

/-- What a valid hunk bears. -/
theorem hk_zero {h : Hunk} {e : Int} (hz : hk h e = 0) (hc : ∀ l : Txt, (lin l).1 = 0 → lin l = (0, 0)) : 0 ≤ h.1 ∧ h.1 ≤ 120 ∧ e < h.1 ∧ h.2.1.length ≤ 120 ∧ h.2.2.length ≤ 120 ∧ h.1 + h.2.1.length ≤ 120 := by
  unfold hk at hz
  by_cases c1 : h.1 < 0 ∨ 120 < h.1
  · rw [if_pos c1] at hz; omega
  rw [if_neg c1] at hz
  by_cases c2 : lin h.2.1 ≠ (0, 0)
  · rw [if_pos c2] at hz; exact absurd (hc _ hz) c2
  rw [if_neg c2] at hz
  by_cases c3 : lin h.2.2 ≠ (0, 0)
  · rw [if_pos c3] at hz; exact absurd (hc _ hz) c3
  rw [if_neg c3] at hz
  by_cases c4 : h.2.1.length + h.2.2.length = 0 ∨ h.1 ≤ e
  · rw [if_pos c4] at hz; omega
  rw [if_neg c4] at hz
  by_cases c5 : 120 < h.1 + h.2.1.length
  · rw [if_pos c5] at hz; omega
  have l1 := lin_len (by simpa using c2)
  have l2 := lin_len (by simpa using c3)
  omega

theorem linL_zero : ∀ (l : Txt) (i : Nat), (linL i l).1 = 0 → linL i l = (0, 0)
  | [], i, _ => rfl
  | s :: r, i, h => by
    unfold linL at h ⊢
    by_cases c1 : 80 < s.size
    · rw [if_pos c1] at h; simp at h
    · rw [if_neg c1] at h ⊢
      by_cases c2 : 0 ≤ La.idx_R s 10
      · rw [if_pos c2] at h; simp at h
      · rw [if_neg c2] at h ⊢; exact linL_zero r _ h

theorem lin_zero (l : Txt) (h : (lin l).1 = 0) : lin l = (0, 0) := by
  unfold lin at h ⊢
  by_cases c : 120 < l.length
  · rw [if_pos c] at h; simp at h
  · rw [if_neg c] at h ⊢; exact linL_zero _ _ h

def tpL : Int → Nat → List Hunk → Int × Int
  | _, _, [] => (0, 0)
  | e, i, h :: r => if hk h e ≠ 0 then (hk h e, i) else tpL (h.1 + h.2.1.length) (i + 1) r
/-- The fault of a patch of a text. -/
def tpV (p : List Hunk) : Int × Int := if 130 < p.length then (2, -1) else tpL (-1) 0 p

theorem tpV_loop {p : List Hunk} (hl : p.length ≤ 130) {K : Int → Int → Prop} : ∀ (fu i : Nat) (e : Int), i ≤ p.length → p.length - i < fu → K (tpL e i (p.drop i)).1 (tpL e i (p.drop i)).2 → L.textpatch_Validate_L1_R p (p.length : Int) fu e i (K 0 0) K
  | 0, i, _, _, h, _ => by omega
  | fu + 1, i, e, hi, h, hK => by
    show L.textpatch_Validate_L1_b p _ e i _ _ _
    unfold L.textpatch_Validate_L1_b
    rcases Nat.lt_or_ge i p.length with g | g
    · rw [drop_cons noHunk g, tpL] at hK
      refine cond_t (by simp; omega) ⟨inB_of (by omega) (by omega), ?_⟩
      simp only [Int.toNat_natCast]
      refine hk_ok (h := p.getD i noHunk) ?_
      by_cases c : hk (p.getD i noHunk) e ≠ 0
      · rw [if_pos c] at hK; exact cond_t (by simpa using c) hK
      · rw [if_neg c] at hK
        have c' : hk (p.getD i noHunk) e = 0 := by simpa using c
        obtain ⟨a1, a2, a3, a4, a5, a6⟩ := hk_zero c' lin_zero
        refine cond_f (by simpa using c') (end_ok (h := p.getD i noHunk) a1 a2 a4 ?_)
        rw [i64_id (by omega) (by omega)]
        exact tpV_loop hl fu (i + 1) _ (by omega) (by omega) hK
    · rw [List.drop_eq_nil_of_le g] at hK
      exact cond_f (by simp; omega) hK

theorem tpV_ok {p : List Hunk} {K : Int → Int → Prop} (hK : K (tpV p).1 (tpV p).2) : L.textpatch_Validate p K := by
  constructor
  unfold L.textpatch_Validate_B
  unfold tpV at hK
  by_cases c : 130 < p.length
  · rw [if_pos c] at hK; exact cond_t (by simp; omega) hK
  · rw [if_neg c] at hK
    exact cond_f (by simp; omega) ⟨⟨p.length + 1, tpV_loop (by omega) _ 0 _ (by omega) (by omega) hK⟩⟩

def eqL : Txt → Txt → Bool
  | a :: r, b :: s => (a.toList == b.toList) && eqL r s
  | [], [] => true
  | _, _ => false

theorem eq_loop {a b : Txt} (hl : a.length ≤ 120) (he : a.length = b.length) {K : Bool → Prop} : ∀ (fu i : Nat), i ≤ a.length → a.length - i < fu → K (eqL (a.drop i) (b.drop i)) → L.slices_Equal_L1_R a b (a.length : Int) fu i (K true) K
  | 0, i, _, h, _ => by omega
  | fu + 1, i, hi, h, hK => by
    show L.slices_Equal_L1_b a b _ i _ _ _
    unfold L.slices_Equal_L1_b
    rcases Nat.lt_or_ge i a.length with g | g
    · rw [drop_cons ByteArray.empty g, drop_cons ByteArray.empty (show i < b.length by omega), eqL] at hK
      refine cond_t (by simp; omega) ⟨inB_of (by omega) (by omega), inB_of (by omega) (by omega), ?_⟩
      simp only [Int.toNat_natCast]
      cases c : ((a.getD i ByteArray.empty).toList == (b.getD i ByteArray.empty).toList) with
      | false => rw [c] at hK; exact hK
      | true =>
        rw [c] at hK
        refine cond_f rfl ?_
        rw [i64_id (by omega) (by omega)]
        exact eq_loop hl he fu (i + 1) (by omega) (by omega) hK
    · rw [List.drop_eq_nil_of_le g, List.drop_eq_nil_of_le (by omega)] at hK
      exact cond_f (by simp; omega) hK

theorem eqL_len : ∀ {a b : Txt}, a.length ≠ b.length → eqL a b = false
  | [], [], h => absurd rfl h
  | [], _ :: _, _ => rfl
  | _ :: _, [], _ => rfl
  | a :: r, b :: s, h => by
    have : r.length ≠ s.length := fun e => h (by simp [e])
    rw [eqL, eqL_len this, Bool.and_false]

theorem eq_ok {a b : Txt} (hl : a.length ≤ 120) {K : Bool → Prop} (hK : K (eqL a b)) : L.slices_Equal a b K := by
  constructor
  unfold L.slices_Equal_B
  by_cases c : a.length = b.length
  · exact cond_f (by simp [c]) ⟨⟨a.length + 1, eq_loop hl c _ 0 (by omega) (by omega) hK⟩⟩
  · rw [eqL_len c] at hK
    exact cond_t (by simp; omega) hK

/-- Whether lines occur in a text at a place. -/
def oc (text part : Txt) (k : Int) : Bool := decide (0 ≤ k ∧ k ≤ text.length ∧ (part.length : Int) ≤ text.length - k) && eqL ((text.take (k + part.length).toNat).drop k.toNat) part

theorem oc_ok {text part : Txt} {k : Int} (ht : text.length ≤ 120) (hp : part.length ≤ 120) (h0 : 0 ≤ k) (h1 : k ≤ 120) {K : Bool → Prop} (hK : K (oc text part k)) : L.lines_Occurs text part k K := by
  constructor
  unfold L.lines_Occurs_B
  rw [i64_id (n := (text.length : Int) - k) (by omega) (by omega), i64_id (n := k + (part.length : Int)) (by omega) (by omega)]
  unfold oc at hK
  by_cases c : 0 ≤ k ∧ k ≤ text.length ∧ (part.length : Int) ≤ text.length - k
  · have e : (bif (bif (decide (k ≥ 0)) then (decide (k ≤ (text.length : Int))) else false) then (decide ((part.length : Int) ≤ ((text.length : Int) - k))) else false) = true := by
      rw [decide_eq_true (by omega), decide_eq_true (by omega), decide_eq_true (by omega)]; rfl
    rw [e]
    rw [decide_eq_true c, Bool.true_and] at hK
    exact ⟨fun _ => by omega, eq_ok (by simp; omega) hK⟩
  · have e : (bif (bif (decide (k ≥ 0)) then (decide (k ≤ (text.length : Int))) else false) then (decide ((part.length : Int) ≤ ((text.length : Int) - k))) else false) = false := by
      by_cases q1 : k ≥ 0
      · by_cases q2 : k ≤ (text.length : Int)
        · rw [decide_eq_true q1, decide_eq_true q2, decide_eq_false (by omega)]; rfl
        · rw [decide_eq_true q1, decide_eq_false q2]; rfl
      · rw [decide_eq_false q1]; rfl
    rw [e]
    rw [decide_eq_false c, Bool.false_and] at hK
    exact ⟨fun h => by simp at h, hK⟩

/-- The lines that the hunks leave. -/
def rawL (text : Txt) : Int → List Hunk → Txt → Txt
  | low, [], out => out ++ (text.take text.length).drop low.toNat
  | low, h :: r, out => rawL text (h.1 + h.2.1.length) r ((out ++ (text.take h.1.toNat).drop low.toNat) ++ h.2.2)

/-- Hunks that follow one another in a text. -/
def Run (text : Txt) : Int → List Hunk → Prop
  | low, [] => 0 ≤ low ∧ low ≤ text.length
  | low, h :: r => 0 ≤ low ∧ low ≤ h.1 ∧ h.1 ≤ text.length ∧ h.1 ≤ 120 ∧ h.2.1.length ≤ 120 ∧ h.2.2.length ≤ 120 ∧ Run text (h.1 + h.2.1.length) r

theorem raw_loop {text : Txt} {p : List Hunk} (ht : text.length ≤ 120) (hl : p.length ≤ 130) {K : Int → Txt → Prop} {K' : Txt → Prop} (hQ : ∀ (low : Int) (out : Txt), 0 ≤ low → low ≤ text.length → out.length ≤ 31200 → K' (out ++ (text.take text.length).drop low.toNat) → K low out) :
    ∀ (fu i : Nat) (low : Int) (out : Txt), i ≤ p.length → p.length - i < fu → Run text low (p.drop i) → out.length ≤ 240 * i → K' (rawL text low (p.drop i) out) → L.textpatch_Raw_L1_R text p (p.length : Int) fu low i out K
  | 0, i, _, _, _, h, _, _, _ => by omega
  | fu + 1, i, low, out, hi, h, hr, ho, hK => by
    show L.textpatch_Raw_L1_b text p _ low i out _ _
    unfold L.textpatch_Raw_L1_b
    rcases Nat.lt_or_ge i p.length with g | g
    · rw [drop_cons noHunk g, rawL] at hK
      rw [drop_cons noHunk g, Run] at hr
      obtain ⟨r1, r2, r3, r4, r5, r6, r7⟩ := hr
      refine cond_t (by simp; omega) ⟨inB_of (by omega) (by omega), ?_⟩
      simp only [Int.toNat_natCast]
      have hd : ((text.take (p.getD i noHunk).1.toNat).drop low.toNat).length ≤ 120 := by simp; omega
      have f1 : fits (out.length + ((text.take (p.getD i noHunk).1.toNat).drop low.toNat).length) := by unfold fits; omega
      have f2 : fits ((out ++ (text.take (p.getD i noHunk).1.toNat).drop low.toNat).length + (p.getD i noHunk).2.2.length) := by unfold fits; rw [List.length_append]; omega
      have go : L.textpatch_Raw_J2 (p.getD i noHunk).1 (p.getD i noHunk).2.1 (p.getD i noHunk).2.2 (fun low2 => L.textpatch_Raw_L1_R text p (p.length : Int) fu low2 (i64 ((i : Int) + 1)) ((out ++ ((text.take (p.getD i noHunk).1.toNat).drop low.toNat)) ++ (p.getD i noHunk).2.2) K) := by
        refine ⟨end_ok (h := p.getD i noHunk) (by omega) r4 r5 ?_⟩
        rw [i64_id (by omega) (by omega)]
        exact raw_loop ht hl hQ fu (i + 1) _ _ (by omega) (by omega) r7 (by rw [List.length_append, List.length_append]; omega) hK
      exact ⟨⟨r1, r2, r3⟩, ⟨f1, f2, go⟩, f1, f2, go⟩
    · rw [List.drop_eq_nil_of_le g] at hK hr
      exact cond_f (by simp; omega) (hQ low out hr.1 hr.2 (by omega) hK)

theorem raw_ok {text : Txt} {p : List Hunk} (ht : text.length ≤ 120) (hl : p.length ≤ 130) (hr : Run text 0 p) {K : Txt → Prop} (hK : K (rawL text 0 p [])) : L.textpatch_Raw p text 0 (text.length : Int) K := by
  refine ⟨⟨⟨p.length + 1, raw_loop (K' := K) ht hl (fun low out h0 h1 h2 hK => ?_) _ 0 0 [] (by omega) (by omega) hr (by simp) hK⟩⟩⟩
  refine ⟨⟨h0, h1, by omega⟩, ?_, ?_⟩
  · unfold fits; simp; omega
  · rw [Int.toNat_natCast]; exact hK

def ocL (text : Txt) : Nat → List Hunk → Int × Int
  | _, [] => (0, 0)
  | i, h :: r => if oc text h.2.1 h.1 = false then (19, i) else ocL text (i + 1) r

/-- What a patch of a text leaves. -/
def tpA (p : List Hunk) (text : Txt) : Txt × Int × Int :=
  if tpV p ≠ (0, 0) then ([], tpV p) else if sec (lin text) (-2) ≠ (0, 0) then ([], sec (lin text) (-2)) else if ocL text 0 p ≠ (0, 0) then ([], ocL text 0 p) else
    if 120 < (rawL text 0 p []).length then ([], (10, -1)) else (rawL text 0 p [], (0, 0))

/-- What a valid patch bears. -/
def Ok (e : Int) : List Hunk → Prop
  | [] => True
  | h :: r => 0 ≤ h.1 ∧ h.1 ≤ 120 ∧ e < h.1 ∧ h.2.1.length ≤ 120 ∧ h.2.2.length ≤ 120 ∧ Ok (h.1 + h.2.1.length) r

theorem tpL_ok : ∀ (p : List Hunk) (e : Int) (i : Nat), tpL e i p = (0, 0) → Ok e p
  | [], _, _, _ => trivial
  | h :: r, e, i, hz => by
    rw [tpL] at hz
    by_cases c : hk h e ≠ 0
    · rw [if_pos c] at hz; exact absurd (congrArg Prod.fst hz) c
    · rw [if_neg c] at hz
      obtain ⟨a1, a2, a3, a4, a5, a6⟩ := hk_zero (by simpa using c) lin_zero
      exact ⟨a1, a2, a3, a4, a5, tpL_ok r _ _ hz⟩

theorem tpV_len {p : List Hunk} (h : tpV p = (0, 0)) : p.length ≤ 130 ∧ Ok (-1) p := by
  unfold tpV at h
  by_cases c : 130 < p.length
  · rw [if_pos c] at h; simp at h
  · rw [if_neg c] at h; exact ⟨by omega, tpL_ok _ _ _ h⟩

theorem Ok_mem : ∀ {p : List Hunk} {e : Int}, Ok e p → ∀ h, h ∈ p → 0 ≤ h.1 ∧ h.1 ≤ 120 ∧ h.2.1.length ≤ 120
  | [], _, _, h, hm => by cases hm
  | a :: r, e, ho, h, hm => by
    rcases List.mem_cons.1 hm with rfl | hm
    · exact ⟨ho.1, ho.2.1, ho.2.2.2.1⟩
    · exact Ok_mem ho.2.2.2.2.2 h hm

theorem oc_loop {text : Txt} {p : List Hunk} (ht : text.length ≤ 120) (hl : p.length ≤ 130) (hm : ∀ h, h ∈ p → 0 ≤ h.1 ∧ h.1 ≤ 120 ∧ h.2.1.length ≤ 120) {K : Int → Int → Prop} {Q : Prop} :
    ∀ (fu i : Nat), i ≤ p.length → p.length - i < fu → (ocL text i (p.drop i) = (0, 0) → Q) → (ocL text i (p.drop i) ≠ (0, 0) → K (ocL text i (p.drop i)).1 (ocL text i (p.drop i)).2) → L.textpatch_Apply_L1_R text p (p.length : Int) fu i Q K
  | 0, i, _, h, _, _ => by omega
  | fu + 1, i, hi, h, hQ, hK => by
    show L.textpatch_Apply_L1_b text p _ i _ _ _
    unfold L.textpatch_Apply_L1_b
    rcases Nat.lt_or_ge i p.length with g | g
    · rw [drop_cons noHunk g, ocL] at hK hQ
      refine cond_t (by simp; omega) ⟨inB_of (by omega) (by omega), ?_⟩
      simp only [Int.toNat_natCast]
      obtain ⟨m1, m2, m3⟩ := hm _ (getD_mem noHunk g)
      refine oc_ok ht m3 m1 m2 ?_
      by_cases c : oc text (p.getD i noHunk).2.1 (p.getD i noHunk).1 = false
      · rw [if_pos c] at hK
        exact cond_t (by rw [c]; rfl) (hK (by simp))
      · rw [if_neg c] at hK hQ
        refine cond_f (by simp only [Bool.not_eq_false] at c; rw [c]; rfl) ?_
        rw [i64_id (by omega) (by omega)]
        exact oc_loop ht hl hm fu (i + 1) (by omega) (by omega) hQ hK
    · rw [List.drop_eq_nil_of_le g] at hQ
      exact cond_f (by simp; omega) (hQ rfl)

theorem run_of {text : Txt} : ∀ {p : List Hunk} {e low : Int} {i : Nat}, Ok e p → ocL text i p = (0, 0) → 0 ≤ low → low ≤ e + 1 → low ≤ text.length → Run text low p
  | [], _, _, _, _, _, h0, _, h2 => ⟨h0, h2⟩
  | h :: r, e, low, i, ho, hz, h0, h1, h2 => by
    obtain ⟨a1, a2, a3, a4, a5, a6⟩ := ho
    rw [ocL] at hz
    by_cases c : oc text h.2.1 h.1 = false
    · rw [if_pos c] at hz; simp at hz
    · rw [if_neg c] at hz
      have c' : oc text h.2.1 h.1 = true := by simpa using c
      unfold oc at c'
      simp only [Bool.and_eq_true, decide_eq_true_eq] at c'
      obtain ⟨⟨b1, b2, b3⟩, _⟩ := c'
      exact ⟨h0, by omega, b2, a2, a4, a5, run_of a6 hz (by omega) (by omega) (by omega)⟩

theorem sec_zero {f : Int × Int} {i : Int} (hf : f.1 = 0 → f = (0, 0)) (h : sec f i = (0, 0)) : f = (0, 0) := by
  unfold sec at h
  by_cases c : f = (0, 0)
  · exact c
  · rw [if_neg c] at h; exact hf (congrArg Prod.fst h)

theorem tpA_ok {p : List Hunk} {text : Txt} {K : Txt → Int → Int → Prop} (hK : K (tpA p text).1 (tpA p text).2.1 (tpA p text).2.2) : L.textpatch_Apply p text K := by
  refine ⟨tpV_ok ?_⟩
  unfold tpA at hK
  by_cases c1 : tpV p ≠ (0, 0)
  · rw [if_pos c1] at hK; exact cond_t (fault1 (by exact c1)) hK
  rw [if_neg c1] at hK
  have c1' : tpV p = (0, 0) := by simpa using c1
  refine cond_f (fault0 (by exact c1')) (linS_ok ?_)
  by_cases c2 : sec (lin text) (-2) ≠ (0, 0)
  · rw [if_pos c2] at hK; exact cond_t (fault1 (by exact c2)) hK
  rw [if_neg c2] at hK
  have c2' : sec (lin text) (-2) = (0, 0) := by simpa using c2
  have ht := lin_len (sec_zero (lin_zero text) c2')
  obtain ⟨hl, ho⟩ := tpV_len c1'
  refine cond_f (fault0 (by exact c2')) ⟨⟨p.length + 1, oc_loop ht hl (Ok_mem ho) _ 0 (by omega) (by omega) (fun hz => ?_) (fun hz => ?_)⟩⟩
  · rw [List.drop_zero] at hz
    rw [if_neg (by simpa using hz)] at hK
    refine raw_ok ht hl (run_of ho hz (by omega) (by omega) (by omega)) ?_
    by_cases c3 : 120 < (rawL text 0 p []).length
    · rw [if_pos c3] at hK; exact cond_t (decide_eq_true (by omega)) hK
    · rw [if_neg c3] at hK; exact cond_f (decide_eq_false (by omega)) hK
  · rw [List.drop_zero] at hz ⊢
    rw [if_pos hz] at hK; exact hK

end Tp
end Go.Proofs.YtkpplfghhciacaaDoor

/-
  The versions that a stack produces lie no farther apart than its patches are long: the law as a plain law. Conditions: none.
-/
import Derived.Test.YtkpplfghhciacaaDoorTsB
set_option linter.unusedVariables false
set_option linter.unusedSimpArgs false
namespace Go.Proofs.YtkpplfghhciacaaDoor
open Eng Bb
namespace Tp

abbrev Pat := List Hunk

theorem eqS_loop {l : Txt} (hl : l.length ≤ 1000) {K0 : Prop} {K : Bool → Prop} (hK : K0) : ∀ (fu i : Nat), i ≤ l.length → l.length - i < fu → L.equal_Strings_L1_R l l fu (i : Int) K0 K
  | 0, i, _, h => by omega
  | fu + 1, i, hi, h => by
    show L.equal_Strings_L1_b _ _ _ _ _ _
    unfold L.equal_Strings_L1_b
    rcases Nat.lt_or_ge i l.length with g | g
    · have es : i64 ((i : Int) + 1) = ((i + 1 : Nat) : Int) := by rw [i64_id (by omega) (by omega)]; omega
      rw [es]
      refine cond_t (by simp; omega) ⟨⟨by omega, by omega⟩, ⟨by omega, by omega⟩, cond_f (by simp) (eqS_loop hl hK fu (i + 1) g (by omega))⟩
    · exact cond_f (by simp; omega) hK

theorem eqS_ok {l : Txt} (hl : l.length ≤ 1000) {K : Bool → Prop} (hK : K true) : L.equal_Strings l l K :=
  ⟨cond_f (by simp) ⟨l.length + 1, eqS_loop hl hK _ 0 (by omega) (by omega)⟩⟩

/-- The fault of a stack. -/
def skC : Nat → List Pat → Int × Int
  | _, [] => (0, 0)
  | i, p :: r => if tpV p ≠ (0, 0) then ((tpV p).1, i) else skC (i + 1) r
def skF (ps : List Pat) : Int × Int := if 12 < ps.length then (2, -1) else skC 0 ps

theorem second_ok {p : Pat} {i : Int} {K : Int → Int → Prop} (hK : K (sec (tpV p) i).1 (sec (tpV p) i).2) : L.textpatch_Second p i K := ⟨tpV_ok (sec_ok hK)⟩

abbrev noPat : Pat := []

theorem check_loop {ps : List Pat} (hl : ps.length ≤ 12) {K : Int → Int → Prop} : ∀ (fu i : Nat), i ≤ ps.length → ps.length - i < fu → K (skC i (ps.drop i)).1 (skC i (ps.drop i)).2 → L.stack_check_L1_R ps (ps.length : Int) fu (i : Int) (K 0 0) K
  | 0, i, _, h, _ => by omega
  | fu + 1, i, hi, h, hK => by
    show L.stack_check_L1_b _ _ _ _ _ _
    unfold L.stack_check_L1_b
    rcases Nat.lt_or_ge i ps.length with g | g
    · rw [drop_cons noPat g, skC] at hK
      have es : i64 ((i : Int) + 1) = ((i + 1 : Nat) : Int) := by rw [i64_id (by omega) (by omega)]; omega
      refine cond_t (by simp; omega) ⟨⟨by omega, by omega⟩, second_ok ?_⟩
      rw [Int.toNat_natCast, es]
      by_cases c : tpV (ps.getD i noPat) = (0, 0)
      · rw [if_neg (fun h => h c)] at hK
        have : sec (tpV (ps.getD i noPat)) (i : Int) = (0, 0) := by unfold sec; rw [if_pos c]
        rw [this]
        exact cond_f rfl (check_loop hl fu (i + 1) g (by omega) hK)
      · rw [if_pos c] at hK
        have : sec (tpV (ps.getD i noPat)) (i : Int) = ((tpV (ps.getD i noPat)).1, (i : Int)) := by unfold sec; rw [if_neg c]
        rw [this]
        refine cond_t (fault1 fun h => c ?_) hK
        exact tpV_zero (congrArg Prod.fst h)
    · rw [List.drop_eq_nil_of_le g] at hK
      exact cond_f (by simp; omega) hK

theorem check_ok {ps : List Pat} {K : Int → Int → Prop} (hK : K (skF ps).1 (skF ps).2) : L.stack_check ps K := by
  constructor
  unfold L.stack_check_B
  unfold skF at hK
  by_cases c : 12 < ps.length
  · rw [if_pos c] at hK; exact cond_t (by simp; omega) hK
  · rw [if_neg c] at hK; exact cond_f (by simp; omega) ⟨ps.length + 1, check_loop (by omega) _ 0 (by omega) (by omega) hK⟩

/-- The texts that a stack produces. -/
def skL : Nat → List Pat → Txt → Txt × Int × Int
  | _, [], o => (o, (0, 0))
  | i, p :: r, o => if (tpA p o).2 ≠ (0, 0) then ([], ((tpA p o).2.1, i)) else skL (i + 1) r (tpA p o).1
def skA (base : Txt) (ps : List Pat) : Txt × Int × Int :=
  if skF ps ≠ (0, 0) then ([], skF ps) else if sec (lin base) (-2) ≠ (0, 0) then ([], sec (lin base) (-2)) else skL 0 ps base

theorem apply_loop {ps : List Pat} (hl : ps.length ≤ 12) {K : Txt → Int → Int → Prop} : ∀ (fu i : Nat) (o : Txt), i ≤ ps.length → ps.length - i < fu → K (skL i (ps.drop i) o).1 (skL i (ps.drop i) o).2.1 (skL i (ps.drop i) o).2.2 →
    L.stack_Apply_L1_R ps (ps.length : Int) fu (i : Int) o (fun out => K out 0 0) (fun m m1 => K [] m m1)
  | 0, i, o, _, h, _ => by omega
  | fu + 1, i, o, hi, h, hK => by
    show L.stack_Apply_L1_b _ _ _ _ _ _ _
    unfold L.stack_Apply_L1_b
    rcases Nat.lt_or_ge i ps.length with g | g
    · rw [drop_cons noPat g, skL] at hK
      have es : i64 ((i : Int) + 1) = ((i + 1 : Nat) : Int) := by rw [i64_id (by omega) (by omega)]; omega
      refine cond_t (by simp; omega) ⟨⟨by omega, by omega⟩, ?_⟩
      rw [Int.toNat_natCast]
      refine tpA_ok ?_
      rw [es]
      by_cases c : (tpA (ps.getD i noPat) o).2 = (0, 0)
      · rw [if_neg (fun h => h c)] at hK
        rw [c]
        exact cond_f rfl (apply_loop hl fu (i + 1) _ g (by omega) hK)
      · rw [if_pos c] at hK
        exact cond_t (fault1 c) hK
    · rw [List.drop_eq_nil_of_le g] at hK
      exact cond_f (by simp; omega) hK

theorem stack_ok {base : Txt} {ps : List Pat} {K : Txt → Int → Int → Prop} (hK : K (skA base ps).1 (skA base ps).2.1 (skA base ps).2.2) : L.stack_Apply base ps K := by
  constructor
  unfold L.stack_Apply_B
  refine check_ok ?_
  unfold skA at hK
  by_cases c : skF ps = (0, 0)
  · rw [if_neg (fun h => h c)] at hK
    rw [c]
    refine cond_f rfl (linS_ok ?_)
    by_cases d : sec (lin base) (-2) = (0, 0)
    · rw [if_neg (fun h => h d)] at hK
      rw [d]
      have hl := lin_len (sec_zero (lin_zero base) d)
      have h12 : ps.length ≤ 12 := by
        unfold skF at c
        by_cases e : 12 < ps.length
        · rw [if_pos e] at c; simp at c
        · omega
      exact cond_f rfl ⟨by unfold fits; simp; omega, ⟨ps.length + 1, apply_loop h12 (ps.length + 1) 0 _ (by omega) (by omega) hK⟩⟩
    · rw [if_pos d] at hK
      exact cond_t (fault1 d) hK
  · rw [if_pos c] at hK
    exact cond_t (fault1 c) hK

theorem skL_app {p : Pat} : ∀ (ps : List Pat) (i : Nat) (o : Txt), (skL i (ps ++ [p]) o).2.1 = 0 → (skL i ps o).2 = (0, 0) ∧ (tpA p (skL i ps o).1).2 = (0, 0) ∧ (skL i (ps ++ [p]) o).1 = (tpA p (skL i ps o).1).1
  | [], i, o, h => by
    rw [List.nil_append, skL] at h ⊢
    rw [skL]
    by_cases c : (tpA p o).2 ≠ (0, 0)
    · rw [if_pos c] at h
      exact absurd (tpA_zero h) c
    · rw [if_neg c]
      exact ⟨rfl, Classical.not_not.1 c, by rw [skL]⟩
  | q :: ps, i, o, h => by
    rw [List.cons_append, skL] at h ⊢
    rw [skL]
    by_cases c : (tpA q o).2 ≠ (0, 0)
    · rw [if_pos c] at h
      exact absurd (tpA_zero h) c
    · rw [if_neg c] at h ⊢
      rw [if_neg c]
      exact skL_app ps _ _ h

theorem skC_zero : ∀ (ps : List Pat) (i : Nat), (skC i ps).1 = 0 → skC i ps = (0, 0)
  | [], i, h => rfl
  | q :: ps, i, h => by
    rw [skC] at h ⊢
    by_cases c : tpV q ≠ (0, 0)
    · rw [if_pos c] at h
      exact absurd (tpV_zero h) c
    · rw [if_neg c] at h ⊢
      exact skC_zero ps _ h

theorem skC_app {p : Pat} : ∀ (ps : List Pat) (i : Nat), skC i (ps ++ [p]) = (0, 0) → skC i ps = (0, 0)
  | [], i, h => rfl
  | q :: ps, i, h => by
    rw [List.cons_append, skC] at h
    rw [skC]
    by_cases c : tpV q ≠ (0, 0)
    · rw [if_pos c] at h
      exact absurd (tpV_zero (congrArg Prod.fst h)) c
    · rw [if_neg c] at h ⊢
      exact skC_app ps _ h

theorem skA_eq {base : Txt} {ps : List Pat} (h1 : skF ps = (0, 0)) (h2 : sec (lin base) (-2) = (0, 0)) : skA base ps = skL 0 ps base := by
  unfold skA
  rw [if_neg (fun g => g h1), if_neg (fun g => g h2)]

theorem skA_zero {base : Txt} {ps : List Pat} (h : (skA base ps).2.1 = 0) : skF ps = (0, 0) ∧ sec (lin base) (-2) = (0, 0) := by
  unfold skA at h
  have hF : skF ps = (0, 0) := by
    by_cases c : skF ps ≠ (0, 0)
    · rw [if_pos c] at h
      unfold skF at h c
      by_cases d : 12 < ps.length
      · rw [if_pos d] at h; simp at h
      · rw [if_neg d] at h c; exact absurd (skC_zero _ _ h) c
    · exact Classical.not_not.1 c
  rw [if_neg (fun g => g hF)] at h
  refine ⟨hF, ?_⟩
  by_cases c : sec (lin base) (-2) ≠ (0, 0)
  · rw [if_pos c] at h
    exact absurd (sec_fst (lin_zero base) h) c
  · exact Classical.not_not.1 c

theorem skA_app {base : Txt} {ps : List Pat} {p : Pat} (h : (skA base (ps ++ [p])).2.1 = 0) : (skA base ps).2 = (0, 0) ∧ (tpA p (skA base ps).1).2 = (0, 0) ∧ (skA base (ps ++ [p])).1 = (tpA p (skA base ps).1).1 := by
  obtain ⟨hF, hs⟩ := skA_zero h
  have hF' : skF ps = (0, 0) := by
    unfold skF at hF ⊢
    by_cases d : 12 < (ps ++ [p]).length
    · rw [if_pos d] at hF; simp at hF
    · rw [if_neg d] at hF
      rw [List.length_append] at d
      rw [if_neg (by omega)]
      exact skC_app _ _ hF
  rw [skA_eq hF hs] at h ⊢
  rw [skA_eq hF' hs]
  exact skL_app ps 0 base h

theorem snoc_get {α : Type} {l : List α} {i : Nat} (d : α) (h : i < l.length) : l.take (i + 1) = l.take i ++ [l.getD i d] := by
  rw [List.take_add_one, List.getElem?_eq_getElem h, List.getD_eq_getElem?_getD, List.getElem?_eq_getElem h]; rfl

theorem cost_loop {l : List Pat} {i : Nat} (hi : i < l.length) (hh : (l.getD i []).length ≤ 130) (hm : ∀ h, h ∈ l.getD i [] → h.2.1.length ≤ 120 ∧ h.2.2.length ≤ 120) {K : Int → Prop} (hK : K (cst (l.getD i []) : Nat)) : ∀ (fu k : Nat), k ≤ (l.getD i []).length → (l.getD i []).length - k < fu →
    L.top_TopStackVersions_L1_R l (i : Int) fu (cst ((l.getD i []).take k) : Nat) (k : Int) K
  | 0, k, _, h => by omega
  | fu + 1, k, hk, h => by
    show L.top_TopStackVersions_L1_b _ _ _ _ _ _
    unfold L.top_TopStackVersions_L1_b
    have bi : inB (i : Int) l.length := ⟨by omega, by omega⟩
    simp only [Int.toNat_natCast]
    have ca : ∀ a b : Pat, cst (a ++ b) = cst a + cst b := by
      intro a b
      induction a with
      | nil => simp [cst]
      | cons x a ih => rw [List.cons_append, cst, cst, ih]; omega
    have cb : ∀ a : Pat, (∀ h, h ∈ a → h.2.1.length ≤ 120 ∧ h.2.2.length ≤ 120) → cst a ≤ 240 * a.length := by
      intro a ha
      induction a with
      | nil => simp [cst]
      | cons x a ih =>
        have h1 := ha x (by simp)
        have h2 := ih fun y hy => ha y (by simp [hy])
        rw [cst, List.length_cons]
        omega
    refine ⟨bi, ?_⟩
    rcases Nat.lt_or_ge k (l.getD i []).length with g | g
    · have bk : inB (k : Int) (l.getD i []).length := ⟨by omega, by omega⟩
      refine cond_t (by simp only [decide_eq_true_eq]; omega) ⟨bi, bk, bi, bk, ?_⟩
      have es : i64 ((k : Int) + 1) = ((k + 1 : Nat) : Int) := by rw [i64_id (by omega) (by omega)]; omega
      have hx := hm _ (getD_mem noHunk g)
      have hc := cb ((l.getD i []).take k) fun h hh => hm h (List.mem_of_mem_take hh)
      rw [List.length_take] at hc
      have et : (l.getD i []).take (k + 1) = (l.getD i []).take k ++ [(l.getD i []).getD k noHunk] := snoc_get noHunk g
      have ih := cost_loop hi hh hm hK fu (k + 1) g (by omega)
      have e1 : cst [(l.getD i []).getD k noHunk] = ((l.getD i []).getD k noHunk).2.1.length + ((l.getD i []).getD k noHunk).2.2.length := by simp [cst]
      rw [et, ca, e1] at ih
      have e2 : i64 (i64 ((cst ((l.getD i []).take k) : Nat) + (((l.getD i []).getD k noHunk).2.1.length : Int)) + (((l.getD i []).getD k noHunk).2.2.length : Int)) = ((cst ((l.getD i []).take k) + (((l.getD i []).getD k noHunk).2.1.length + ((l.getD i []).getD k noHunk).2.2.length) : Nat) : Int) := by
        rw [i64_id (n := (cst ((l.getD i []).take k) : Nat) + (((l.getD i []).getD k noHunk).2.1.length : Int)) (by omega) (by omega), i64_id (by omega) (by omega)]
        omega
      rw [es]
      show L.top_TopStackVersions_L1_R l (i : Int) fu (i64 (i64 ((cst ((l.getD i []).take k) : Nat) + (((l.getD i []).getD k noHunk).2.1.length : Int)) + (((l.getD i []).getD k noHunk).2.2.length : Int))) ((k + 1 : Nat) : Int) K
      rw [e2]
      exact ih
    · obtain rfl : k = (l.getD i []).length := by omega
      rw [List.take_length]
      exact cond_f (by simp) hK

abbrev exH : Pat := [(0, ([L.str2], [L.str3]))]

theorem tree_ok {K : Bool → Prop} (hK : K true) : L.equal_Tree [(L.str4, [L.str3])] [(L.str4, [L.str3])] K := by
  constructor
  unfold L.equal_Tree_B
  refine cond_f (by decide) ⟨2, ?_⟩
  show L.equal_Tree_L1_b _ _ 0 _ _ _
  unfold L.equal_Tree_L1_b
  refine cond_t (by decide) ⟨⟨by decide, by decide⟩, ⟨by decide, by decide⟩, fun _ => ⟨by decide, by decide⟩, fun _ => ⟨by decide, by decide⟩, cond_t (by decide +kernel) (eqS_ok (l := [L.str3]) (by decide) (cond_f rfl ?_))⟩
  show L.equal_Tree_L1_b _ _ (i64 (0 + 1)) _ _ _
  exact cond_f (by decide +kernel) hK

theorem works_ok {K : Bool → Prop} (hK : K true) : L.top_h11Works K := by
  constructor
  unfold L.top_h11Works_B
  have h1 : tpA exH [L.str2] = ([L.str3], (0, 0)) := by decide +kernel
  have h2 : ap [(4, (L.str4, (L.str1, ([], exH))))] [(L.str4, [L.str2])] = ([(L.str4, [L.str3])], (0, 0)) := by decide +kernel
  refine tpA_ok ?_
  rw [h1]
  constructor
  unfold L.top_h11Edit_h1_B
  refine ap_ok ?_
  rw [h2]
  exact cond_t rfl (eqS_ok (by decide) (cond_t rfl (tree_ok hK)))

theorem stack_true {base : Txt} {l : List Pat} {i : Int} (hw : big l.length) (K : Bool → Prop) (hK : K true) : L.top_TopStackVersions base l i K := by
  unfold big at hw
  constructor
  unfold L.top_TopStackVersions_B
  by_cases hi : i < 0 ∨ (l.length : Int) ≤ i
  · refine cond_t ?_ (works_ok hK)
    rcases hi with h | h
    · rw [decide_eq_true h]; rfl
    · rw [decide_eq_true (p := i ≥ (l.length : Int)) h]; cases decide (i < 0) <;> rfl
  · obtain ⟨k, rfl⟩ : ∃ k : Nat, i = k := ⟨i.toNat, by omega⟩
    have hk : k < l.length := by omega
    have e1 : i64 ((k : Int) + 1) = ((k + 1 : Nat) : Int) := by rw [i64_id (by omega) (by omega)]; omega
    rw [e1]
    simp only [Int.toNat_natCast]
    refine cond_f ?_ ⟨⟨by omega, by omega⟩, stack_ok ⟨⟨by omega, by omega⟩, stack_ok ?_⟩⟩
    · rw [decide_eq_false (by omega), decide_eq_false (by omega)]; rfl
    by_cases c : (skA base (l.take k)).2.1 = 0 ∧ (skA base (l.take (k + 1))).2.1 = 0
    · have et : l.take (k + 1) = l.take k ++ [l.getD k []] := by
        rw [List.take_add_one, List.getElem?_eq_getElem hk, List.getD_eq_getElem?_getD, List.getElem?_eq_getElem hk]
        rfl
      rw [et] at c ⊢
      obtain ⟨q1, q2, q3⟩ := skA_app c.2
      obtain ⟨g1, g2, g3⟩ := tpA_good q2
      refine cond_f ?_ ⟨⟨by omega, by omega⟩, tpA_ok ?_⟩
      · rw [c.1, c.2]; rfl
      rw [q3]
      refine distance_ok g1 g2 ⟨(l.getD k []).length + 1, ?_⟩
      have hv : tpV (l.getD k []) = (0, 0) := by
        have h := q2
        unfold tpA at h
        by_cases d : tpV (l.getD k []) ≠ (0, 0)
        · rw [if_pos d] at h; exact absurd h d
        · exact Classical.not_not.1 d
      obtain ⟨v1, v2⟩ := tpV_len hv
      refine cost_loop hk v1 (fun h hh => ⟨(Ok_mem v2 h hh).2.2, lin_len (tpV_new hv h hh)⟩) ?_ _ 0 (by omega) (by omega)
      rw [q2]
      refine cond_t rfl (eqS_ok (by have := lin_len g2; omega) (cond_t ?_ (works_ok hK)))
      show (bif true then decide _ else false) = true
      simp only [cond_true, decide_eq_true_eq]
      exact g3
    · refine cond_t ?_ (works_ok hK)
      by_cases d : (skA base (l.take k)).2.1 = 0
      · have : (skA base (l.take (k + 1))).2.1 ≠ 0 := fun h => c ⟨d, h⟩
        rw [bne_iff_ne.2 this]
        cases ((skA base (l.take k)).2.1 != 0) <;> rfl
      · rw [bne_iff_ne.2 d]; rfl

end Tp

theorem TopStackVersions_true (xs : ArgDen [(false, (.slice .str)), (false, (.slice (.slice (.pair (.int .i64) (.pair (.slice .str) (.slice .str)))))), (false, (.int .i64))]) (hw : WfAll _ xs) (K : Bool → Prop) (hK : K true) : L.top_TopStackVersions xs.1 xs.2.1 xs.2.2.1 K :=
  Tp.stack_true (Bb.big_of hw.2.1.1) K hK

end Go.Proofs.YtkpplfghhciacaaDoor

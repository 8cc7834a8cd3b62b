/-
  Applying a patch to a tree. Conditions: none.
-/
import Derived.Test.YtkpplfghhciacaaDoorLaV
set_option linter.unusedVariables false
set_option linter.unusedSimpArgs false
namespace Go.Proofs.YtkpplfghhciacaaDoor
open Eng Bb
namespace Tp

def ins (t : Tree) (k : Nat) (f : File) : Tree := (t.take k ++ [f]) ++ t.drop k
def del (t : Tree) (k : Nat) : Tree := t.take k ++ t.drop (k + 1)
def setL (t : Tree) (k : Nat) (l : Txt) : Tree := t.set k ((t.getD k noFile).1, l)
/-- The tree with a file added or replaced. -/
def put (p : ByteArray) (l : Txt) (t : Tree) : Tree := if found t p = true then setL t (place t p) l else setL (ins t (place t p) (p, [])) (place t p) l

theorem ins_len {t : Tree} {k : Nat} {f : File} (h : k ≤ t.length) : (ins t k f).length = t.length + 1 := by
  unfold ins; simp; omega

theorem put1_ok {t : Tree} {k : Nat} {l : Txt} (hk : k < t.length) (hl : l.length ≤ 120) {K : Tree → Prop} (hK : K (setL t k l)) : L.treepatch_Put_h6_J1 l (k : Int) t K := by
  have one : (inB (k : Int) t.length) ∧ K (t.set (k : Int).toNat ((t.getD (k : Int).toNat noFile).1, l)) := ⟨inB_of (by omega) (by omega), by rw [Int.toNat_natCast]; exact hK⟩
  exact ⟨⟨clone_ok hl one, clone_ok hl one⟩⟩

theorem put_ok {t : Tree} {p : ByteArray} {l : Txt} (ht : t.length ≤ 24) (hl : l.length ≤ 120) {K : Tree → Prop} (hK : K (put p l t)) : L.treepatch_Put_h6 p l t K := by
  refine ⟨find_ok ht ?_⟩
  unfold put at hK
  have hp : place t p ≤ t.length := place_le
  cases c : found t p with
  | true =>
    rw [if_pos c] at hK
    have hlt : place t p < t.length := by
      unfold found at c
      simp only [Bool.and_eq_true, decide_eq_true_eq] at c
      exact c.1
    exact cond_f rfl (put1_ok hlt hl hK)
  | false =>
    rw [if_neg (by rw [c]; decide)] at hK
    refine cond_t rfl ⟨⟨by omega, by omega, by simp, by unfold fits; simp; omega⟩, ?_⟩
    rw [Int.toNat_natCast]
    exact put1_ok (t := ins t (place t p) (p, [])) (by rw [ins_len hp]; omega) hl hK

/-- What a valid change bears. -/
def Good (c : Chg) : Prop := c.2.1.size ≤ 60 ∧ (c.1 = 3 → c.2.2.1.size ≤ 60) ∧ c.2.2.2.1.length ≤ 120

def mk1 (c : Chg) (t : Tree) : Int × Tree :=
  if c.1 = 1 then (if clash t c.2.1 (-1) = true then (7, t) else if 24 ≤ t.length then (14, t) else (0, put c.2.1 c.2.2.2.1 t)) else
    if found t c.2.1 = false then (6, t) else
      if c.1 = 2 then (if eqL (t.getD (place t c.2.1) noFile).2 c.2.2.2.1 = false then (19, t) else (0, del t (place t c.2.1))) else
        if c.1 = 3 then (if clash t c.2.2.1 (place t c.2.1) = true then (7, t) else (0, put c.2.2.1 (t.getD (place t c.2.1) noFile).2 (del t (place t c.2.1)))) else
          if (tpA c.2.2.2.2 (t.getD (place t c.2.1) noFile).2).2 ≠ (0, 0) then ((tpA c.2.2.2.2 (t.getD (place t c.2.1) noFile).2).2.1, t) else
            (0, setL t (place t c.2.1) (tpA c.2.2.2.2 (t.getD (place t c.2.1) noFile).2).1)

theorem found_lt {t : Tree} {p : ByteArray} (h : found t p = true) : place t p < t.length := by
  unfold found at h
  simp only [Bool.and_eq_true, decide_eq_true_eq] at h
  exact h.1

theorem inv_pth {t : Tree} (h : Inv t) : Pth t := fun f hf => (h.2 f hf).1

theorem del_len {t : Tree} {k : Nat} (h : k < t.length) : (del t k).length = t.length - 1 := by unfold del; simp; omega

theorem mk1_ok {c : Chg} {t : Tree} (hg : Good c) (ht : Inv t) {K : Int → Tree → Prop} (hK : K (mk1 c t).1 (mk1 c t).2) : L.treepatch_make1_h5 c.1 c.2.1 c.2.2.1 c.2.2.2.1 c.2.2.2.2 t K := by
  refine ⟨find_ok ht.1 ?_⟩
  unfold mk1 at hK
  by_cases c1 : c.1 = 1
  · rw [if_pos c1] at hK
    refine cond_t (by simpa using c1) (clash_ok ht.1 (inv_pth ht) hg.1 ?_)
    cases c2 : clash t c.2.1 (-1) with
    | true => rw [if_pos c2] at hK; exact hK
    | false =>
      rw [if_neg (by rw [c2]; decide)] at hK
      refine cond_f rfl ?_
      by_cases c3 : 24 ≤ t.length
      · rw [if_pos c3] at hK; exact cond_t (decide_eq_true (by omega)) hK
      · rw [if_neg c3] at hK
        exact cond_f (decide_eq_false (by omega)) (put_ok ht.1 hg.2.2 hK)
  rw [if_neg c1] at hK
  refine cond_f (by simpa using c1) ?_
  cases c2 : found t c.2.1 with
  | false => rw [if_pos c2] at hK; exact hK
  | true =>
    rw [if_neg (by rw [c2]; decide)] at hK
    have hlt := found_lt c2
    have hfl := (ht.2 _ (getD_mem noFile hlt)).2
    have e1 : i64 (((place t c.2.1 : Nat) : Int) + 1) = ((place t c.2.1 + 1 : Nat) : Int) := by
      have := ht.1
      rw [i64_id (by omega) (by omega)]; omega
    have cd : (0 ≤ ((place t c.2.1 : Nat) : Int) ∧ ((place t c.2.1 : Nat) : Int) < (i64 (((place t c.2.1 : Nat) : Int) + 1)) ∧ (i64 (((place t c.2.1 : Nat) : Int) + 1)) ≤ (t.length : Int) ∧ fits t.length) := by
      rw [e1]
      have := ht.1
      exact ⟨by omega, by omega, by omega, by unfold fits; omega⟩
    have ed : t.take (((place t c.2.1 : Nat) : Int)).toNat ++ t.drop (i64 (((place t c.2.1 : Nat) : Int) + 1)).toNat = del t (place t c.2.1) := by
      rw [e1, Int.toNat_natCast, Int.toNat_natCast]; rfl
    refine cond_f rfl ⟨inB_of (by omega) (by omega), ?_⟩
    simp only [Int.toNat_natCast] at ed ⊢
    by_cases c3 : c.1 = 2
    · rw [if_pos c3] at hK
      refine cond_t (by simpa using c3) (eq_ok hfl ?_)
      cases c4 : eqL (t.getD (place t c.2.1) noFile).2 c.2.2.2.1 with
      | false => rw [if_pos c4] at hK; exact hK
      | true =>
        rw [if_neg (by rw [c4]; decide)] at hK
        refine cond_f rfl ⟨cd, ?_⟩
        rw [ed]; exact hK
    rw [if_neg c3] at hK
    refine cond_f (by simpa using c3) ?_
    by_cases c4 : c.1 = 3
    · rw [if_pos c4] at hK
      refine cond_t (by simpa using c4) (clash_ok ht.1 (inv_pth ht) (hg.2.1 c4) ?_)
      cases c5 : clash t c.2.2.1 (place t c.2.1) with
      | true => rw [if_pos c5] at hK; exact hK
      | false =>
        rw [if_neg (by rw [c5]; decide)] at hK
        refine cond_f rfl ⟨cd, ?_⟩
        rw [ed]
        exact put_ok (by rw [del_len hlt]; have := ht.1; omega) hfl hK
    rw [if_neg c4] at hK
    refine cond_f (by simpa using c4) (tpA_ok ?_)
    by_cases c5 : (tpA c.2.2.2.2 (t.getD (place t c.2.1) noFile).2).2 ≠ (0, 0)
    · rw [if_pos c5] at hK
      exact cond_t (fault1 (by exact c5)) hK
    · rw [if_neg c5] at hK
      exact cond_f (fault0 (Decidable.not_not.1 c5)) ⟨inB_of (by omega) (by omega), hK⟩

theorem tpA_len (p : List Hunk) (t : Txt) : (tpA p t).1.length ≤ 120 := by
  unfold tpA
  repeat' split
  all_goals simp <;> omega

theorem setL_inv {t : Tree} {k : Nat} {l : Txt} (ht : Inv t) (hk : k < t.length) (hl : l.length ≤ 120) : Inv (setL t k l) := by
  refine ⟨by unfold setL; simp; exact ht.1, fun f hf => ?_⟩
  rcases List.mem_or_eq_of_mem_set hf with h | h
  · exact ht.2 f h
  · rw [h]; exact ⟨(ht.2 _ (getD_mem noFile hk)).1, hl⟩

theorem del_inv {t : Tree} {k : Nat} (ht : Inv t) (hk : k < t.length) : Inv (del t k) := by
  refine ⟨by rw [del_len hk]; have := ht.1; omega, fun f hf => ?_⟩
  rcases List.mem_append.1 hf with h | h
  · exact ht.2 f (List.mem_of_mem_take h)
  · exact ht.2 f (List.mem_of_mem_drop h)

theorem put_inv {t : Tree} {p : ByteArray} {l : Txt} (ht : Inv t) (h24 : t.length < 24) (hp : p.size ≤ 60) (hl : l.length ≤ 120) : Inv (put p l t) := by
  unfold put
  by_cases c : found t p = true
  · rw [if_pos c]; exact setL_inv ht (found_lt c) hl
  · rw [if_neg c]
    refine setL_inv ⟨by rw [ins_len place_le]; omega, fun f hf => ?_⟩ (by rw [ins_len place_le]; have := place_le (t := t) (p := p); omega) hl
    rcases List.mem_append.1 hf with h | h
    · rcases List.mem_append.1 h with h | h
      · exact ht.2 f (List.mem_of_mem_take h)
      · rw [List.mem_singleton.1 h]; exact ⟨hp, by simp⟩
    · exact ht.2 f (List.mem_of_mem_drop h)

theorem mk1_inv {c : Chg} {t : Tree} (hg : Good c) (ht : Inv t) : Inv (mk1 c t).2 := by
  unfold mk1
  by_cases c1 : c.1 = 1
  · rw [if_pos c1]
    by_cases c2 : clash t c.2.1 (-1) = true
    · rw [if_pos c2]; exact ht
    · rw [if_neg c2]
      by_cases c3 : 24 ≤ t.length
      · rw [if_pos c3]; exact ht
      · rw [if_neg c3]; exact put_inv ht (by omega) hg.1 hg.2.2
  rw [if_neg c1]
  by_cases c2 : found t c.2.1 = false
  · rw [if_pos c2]; exact ht
  rw [if_neg c2]
  have hlt := found_lt (by simpa using c2)
  have hfl := (ht.2 _ (getD_mem noFile hlt)).2
  by_cases c3 : c.1 = 2
  · rw [if_pos c3]
    by_cases c4 : eqL (t.getD (place t c.2.1) noFile).2 c.2.2.2.1 = false
    · rw [if_pos c4]; exact ht
    · rw [if_neg c4]; exact del_inv ht hlt
  rw [if_neg c3]
  by_cases c4 : c.1 = 3
  · rw [if_pos c4]
    by_cases c5 : clash t c.2.2.1 (place t c.2.1) = true
    · rw [if_pos c5]; exact ht
    · rw [if_neg c5]; exact put_inv (del_inv ht hlt) (by rw [del_len hlt]; have := ht.1; omega) (hg.2.1 c4) hfl
  rw [if_neg c4]
  by_cases c5 : (tpA c.2.2.2.2 (t.getD (place t c.2.1) noFile).2).2 ≠ (0, 0)
  · rw [if_pos c5]; exact ht
  · rw [if_neg c5]; exact setL_inv ht hlt (tpA_len _ _)

theorem chk_good {c : Chg} (h : chk c = 0) : Good c := by
  unfold chk at h
  by_cases c1 : c.1 < 1 ∨ 4 < c.1
  · rw [if_pos c1] at h; omega
  rw [if_neg c1] at h
  by_cases c2 : La.vp_R c.2.1 = false
  · rw [if_pos c2] at h; omega
  rw [if_neg c2] at h
  by_cases c3 : (c.1 == 3 && !La.vp_R c.2.2.1) = true
  · rw [if_pos c3] at h; omega
  rw [if_neg c3] at h
  split at h
  · omega
  split at h
  · omega
  unfold chk1 at h
  split at h
  · omega
  split at h
  · omega
  unfold chk2 at h
  refine ⟨vp_size (by simpa using c2), fun e => vp_size ?_, ?_⟩
  · rw [e] at c3
    simpa using c3
  · by_cases c6 : lin c.2.2.2.1 ≠ (0, 0)
    · rw [if_pos c6] at h; exact absurd (lin_zero _ h) c6
    · exact lin_len (Decidable.not_not.1 c6)

theorem vPL_good : ∀ (p : Patch) (i : Nat), vPL i p = (0, 0) → ∀ c, c ∈ p → Good c
  | [], _, _, c, hc => by cases hc
  | a :: r, i, h, c, hc => by
    rw [vPL] at h
    by_cases c1 : chk a ≠ 0
    · rw [if_pos c1] at h; exact absurd (congrArg Prod.fst h) c1
    · rw [if_neg c1] at h
      rcases List.mem_cons.1 hc with rfl | hc
      · exact chk_good (Decidable.not_not.1 c1)
      · exact vPL_good r _ h c hc

theorem vP_good {p : Patch} (h : vP p = (0, 0)) : p.length ≤ 30 ∧ ∀ c, c ∈ p → Good c := by
  unfold vP at h
  by_cases c : 30 < p.length
  · rw [if_pos c] at h; simp at h
  · rw [if_neg c] at h; exact ⟨by omega, vPL_good _ _ h⟩

theorem vPL_zero : ∀ (p : Patch) (i : Nat), (vPL i p).1 = 0 → vPL i p = (0, 0)
  | [], _, _ => rfl
  | a :: r, i, h => by
    rw [vPL] at h ⊢
    by_cases c1 : chk a ≠ 0
    · rw [if_pos c1] at h; exact absurd h c1
    · rw [if_neg c1] at h ⊢; exact vPL_zero r _ h

theorem vP_zero {p : Patch} (h : (vP p).1 = 0) : vP p = (0, 0) := by
  unfold vP at h ⊢
  by_cases c : 30 < p.length
  · rw [if_pos c] at h; simp at h
  · rw [if_neg c] at h ⊢; exact vPL_zero _ _ h

theorem sec_fst {f : Int × Int} {i : Int} (hf : f.1 = 0 → f = (0, 0)) (h : (sec f i).1 = 0) : sec f i = (0, 0) := by
  unfold sec at h ⊢
  by_cases c : f = (0, 0)
  · rw [if_pos c]
  · rw [if_neg c] at h; exact absurd (hf h) c

theorem valL_zero {t : Tree} : ∀ (s : Tree) (i : Nat), (valL t i s).1 = 0 → valL t i s = (0, 0)
  | [], _, _ => rfl
  | a :: r, i, h => by
    rw [valL] at h ⊢
    split at h
    · simp at h
    rename_i c1
    rw [if_neg c1]
    split at h
    · simp at h
    rename_i c2
    rw [if_neg c2]
    split at h
    · simp at h
    rename_i c3
    rw [if_neg c3]
    split at h
    · rename_i c4
      rw [if_pos c4]; exact valL_zero r _ h
    · rename_i c4
      exact absurd (sec_fst (lin_zero _) h) c4

theorem val_zero {t : Tree} (h : (val t).1 = 0) : val t = (0, 0) := by
  unfold val at h ⊢
  by_cases c : 24 < t.length
  · rw [if_pos c] at h; simp at h
  · rw [if_neg c] at h ⊢; exact valL_zero _ _ h

theorem valL_inv {t : Tree} : ∀ (s : Tree) (i : Nat), valL t i s = (0, 0) → ∀ f, f ∈ s → f.1.size ≤ 60 ∧ f.2.length ≤ 120
  | [], _, _, f, hf => by cases hf
  | a :: r, i, h, f, hf => by
    rw [valL] at h
    split at h
    · simp at h
    rename_i c1
    split at h
    · simp at h
    split at h
    · simp at h
    split at h
    · rename_i c4
      rcases List.mem_cons.1 hf with rfl | hf
      · exact ⟨vp_size (by simpa using c1), lin_len (sec_zero (lin_zero _) c4)⟩
      · exact valL_inv r _ h f hf
    · rename_i c4
      exact absurd h c4

theorem val_inv {t : Tree} (h : val t = (0, 0)) : Inv t := by
  unfold val at h
  by_cases c : 24 < t.length
  · rw [if_pos c] at h; simp at h
  · rw [if_neg c] at h; exact ⟨by omega, valL_inv _ _ h⟩

def apL : Nat → Patch → Tree → Tree × Int × Int
  | _, [], t => (t, (0, 0))
  | i, c :: r, t => if (mk1 c t).1 ≠ 0 then ([], ((mk1 c t).1, i)) else apL (i + 1) r (mk1 c t).2
/-- What a patch leaves of a tree, and the fault. -/
def ap (p : Patch) (t : Tree) : Tree × Int × Int :=
  if vP p ≠ (0, 0) then ([], vP p) else if sec (val t) (-2) ≠ (0, 0) then ([], sec (val t) (-2)) else apL 0 p t

theorem ap_loop {p : Patch} (hl : p.length ≤ 30) (hg : ∀ c, c ∈ p → Good c) {K : Tree → Int → Int → Prop} : ∀ (fu i : Nat) (t : Tree), i ≤ p.length → p.length - i < fu → Inv t → K (apL i (p.drop i) t).1 (apL i (p.drop i) t).2.1 (apL i (p.drop i) t).2.2 →
    L.treepatch_Apply_h7_L1_R p (p.length : Int) fu i t (fun m => K m 0 0) (fun a b => K [] a b)
  | 0, i, _, _, h, _, _ => by omega
  | fu + 1, i, t, hi, h, ht, hK => by
    show L.treepatch_Apply_h7_L1_b p _ i t _ _ _
    unfold L.treepatch_Apply_h7_L1_b
    rcases Nat.lt_or_ge i p.length with g | g
    · rw [drop_cons noChg g, apL] at hK
      refine cond_t (by simp; omega) ⟨inB_of (by omega) (by omega), ?_⟩
      simp only [Int.toNat_natCast]
      have hgc := hg _ (getD_mem noChg g)
      refine mk1_ok (c := p.getD i noChg) hgc ht ?_
      by_cases c : (mk1 (p.getD i noChg) t).1 ≠ 0
      · rw [if_pos c] at hK; exact cond_t (by simpa using c) hK
      · rw [if_neg c] at hK
        refine cond_f (by simpa using c) ?_
        rw [i64_id (by omega) (by omega)]
        exact ap_loop hl hg fu (i + 1) _ (by omega) (by omega) (mk1_inv hgc ht) hK
    · rw [List.drop_eq_nil_of_le g] at hK
      exact cond_f (by simp; omega) hK

theorem ap_ok {p : Patch} {t : Tree} {K : Tree → Int → Int → Prop} (hK : K (ap p t).1 (ap p t).2.1 (ap p t).2.2) : L.treepatch_Apply_h7 p t K := by
  refine ⟨vP_ok ?_⟩
  unfold ap at hK
  by_cases c1 : vP p ≠ (0, 0)
  · rw [if_pos c1] at hK; exact cond_t (fault1 (by exact c1)) ⟨hK, hK⟩
  rw [if_neg c1] at hK
  have c1' := Decidable.not_not.1 c1
  refine cond_f (fault0 (by exact c1')) (valS_ok ?_)
  by_cases c2 : sec (val t) (-2) ≠ (0, 0)
  · rw [if_pos c2] at hK; exact cond_t (fault1 (by exact c2)) ⟨hK, hK⟩
  rw [if_neg c2] at hK
  have c2' := Decidable.not_not.1 c2
  have hi := val_inv (sec_zero val_zero c2')
  obtain ⟨hl, hg⟩ := vP_good c1'
  exact cond_f (fault0 (by exact c2')) (copy_ok hi.1 (fun f hf => (hi.2 f hf).2) ⟨⟨p.length + 1, ap_loop hl hg _ 0 t (by omega) (by omega) hi hK⟩⟩)

theorem apL_zero : ∀ (p : Patch) (i : Nat) (t : Tree), (apL i p t).2.1 = 0 → (apL i p t).2 = (0, 0)
  | [], _, _, _ => rfl
  | a :: r, i, t, h => by
    rw [apL] at h ⊢
    by_cases c1 : (mk1 a t).1 ≠ 0
    · rw [if_pos c1] at h; exact absurd h c1
    · rw [if_neg c1] at h ⊢; exact apL_zero r _ _ h

/-- A fault without a code is none. -/
theorem ap_zero {p : Patch} {t : Tree} (h : (ap p t).2.1 = 0) : (ap p t).2 = (0, 0) := by
  unfold ap at h ⊢
  by_cases c1 : vP p ≠ (0, 0)
  · rw [if_pos c1] at h; exact absurd (vP_zero h) c1
  rw [if_neg c1] at h ⊢
  by_cases c2 : sec (val t) (-2) ≠ (0, 0)
  · rw [if_pos c2] at h; exact absurd (sec_fst val_zero h) c2
  rw [if_neg c2] at h ⊢
  exact apL_zero _ _ _ h

end Tp
end Go.Proofs.YtkpplfghhciacaaDoor

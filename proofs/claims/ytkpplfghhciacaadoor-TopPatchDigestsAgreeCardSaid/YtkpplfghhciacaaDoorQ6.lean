/-
  Part 6 of a proof of one law by a verified reader of the program: lifted functions, their plain specifications, the law. Conditions: none.
-/
import Derived.Test.YtkpplfghhciacaaDoorQ5
import Derived.Test.YtkpplfghhciacaaDoorCards
import Derived.Test.YtkpplfghhciacaaDoorTie
import Derived.ProofKit
import Derived.LaidMore
import Derived.Lay
import Derived.SevenTiedAt
import Derived.Stop.Joined
set_option linter.unusedVariables false
set_option linter.unusedSimpArgs false
namespace Go.Proofs.YtkpplfghhciacaaDoor
open Eng Bb
namespace Tp
theorem rel_symm (a b : ByteArray) : rel a b = rel b a := by
  unfold rel
  rw [Bool.or_comm (hp a _)]
  have : (a.toList == b.toList) = (b.toList == a.toList) := BEq.comm
  rw [this]
structure Vd (t : Tree) : Prop where
  len : t.length ≤ 24
  srt : Srt t
  rel : t.Pairwise fun f g => rel f.1 g.1 = false
  vp : ∀ f, f ∈ t → La.vp_R f.1 = true
  lin : ∀ f, f ∈ t → lin f.2 = (0, 0)
theorem clashL_false {p : ByteArray} : ∀ (t : Tree) (i : Nat), clashL p (-1) i t = false ↔ ∀ g, g ∈ t → rel g.1 p = false
  | [], i => by simp [clashL]
  | f :: r, i => by
    have h1 : ((i : Int) != -1) = true := by rw [bne_iff_ne]; omega
    rw [clashL, h1, Bool.true_and]
    cases c : rel f.1 p with
    | true => simp [c]
    | false => simp only [Bool.false_eq_true, if_false, List.mem_cons, forall_eq_or_imp, c, true_and]; exact clashL_false r (i + 1)
theorem valL_vd {t : Tree} : ∀ (s u : Tree), t = u ++ s → Srt u → (u.Pairwise fun f g => rel f.1 g.1 = false) → (∀ f, f ∈ u → La.vp_R f.1 = true) → (∀ f, f ∈ u → lin f.2 = (0, 0)) → valL t u.length s = (0, 0) →
    Srt t ∧ (t.Pairwise fun f g => rel f.1 g.1 = false) ∧ (∀ f, f ∈ t → La.vp_R f.1 = true) ∧ (∀ f, f ∈ t → lin f.2 = (0, 0))
  | [], u, e, h1, h2, h3, h4, _ => by rw [List.append_nil] at e; subst e; exact ⟨h1, h2, h3, h4⟩
  | f :: s, u, e, h1, h2, h3, h4, hv => by
    rw [valL] at hv
    by_cases c1 : La.vp_R f.1 = false
    · rw [if_pos c1] at hv; simp at hv
    rw [if_neg c1] at hv
    by_cases c2 : (decide (0 < u.length) && le f.1 (t.getD (u.length - 1) noFile).1) = true
    · rw [if_pos c2] at hv; simp at hv
    rw [if_neg c2] at hv
    by_cases c3 : clash (t.take u.length) f.1 (-1) = true
    · rw [if_pos c3] at hv; simp at hv
    rw [if_neg c3] at hv
    by_cases c4 : sec (lin f.2) u.length = (0, 0)
    · rw [if_pos c4] at hv
      have e3 : t.take u.length = u := by rw [e, List.take_left']; rfl
      rw [e3] at c3
      have hr := (clashL_false u 0).1 (Bool.eq_false_iff.2 c3)
      have hlt : ∀ g, g ∈ u → lt g.1 f.1 := by
        intro g hg
        obtain ⟨u', l, rfl⟩ : ∃ u' l, u = u' ++ [l] := by
          rcases List.eq_nil_or_concat u with e | ⟨u', l, e⟩
          · subst e; cases hg
          · exact ⟨u', l, by rw [e]; simp⟩
        have hlast : t.getD ((u' ++ [l]).length - 1) noFile = l := by
          rw [e, List.length_append, List.length_singleton, Nat.add_sub_cancel, List.append_assoc]
          simp [List.getD]
        rw [hlast] at c2
        have hl : lt l.1 f.1 := by
          refine le_false ?_
          rw [decide_eq_true (by simp), Bool.true_and] at c2
          exact Bool.eq_false_iff.2 c2
        rcases List.mem_append.1 hg with h | h
        · exact lt_trans ((srt_app.1 h1).2.2 g h l (List.mem_singleton_self _)) hl
        · rw [List.mem_singleton.1 h]; exact hl
      have e' : t = (u ++ [f]) ++ s := by rw [e]; simp
      have hl' : (u ++ [f]).length = u.length + 1 := by simp
      refine valL_vd s (u ++ [f]) e' ?_ ?_ ?_ ?_ (by rw [hl']; exact hv)
      · exact srt_app.2 ⟨h1, List.pairwise_singleton .., fun g hg x hx => by rw [List.mem_singleton.1 hx]; exact hlt g hg⟩
      · exact List.pairwise_append.2 ⟨h2, List.pairwise_singleton .., fun g hg x hx => by rw [List.mem_singleton.1 hx]; exact hr g hg⟩
      · intro g hg
        rcases List.mem_append.1 hg with h | h
        · exact h3 g h
        · rw [List.mem_singleton.1 h]; simpa using c1
      · intro g hg
        rcases List.mem_append.1 hg with h | h
        · exact h4 g h
        · rw [List.mem_singleton.1 h]; exact sec_zero (lin_zero _) c4
    · rw [if_neg c4] at hv; exact absurd hv c4
theorem val_vd {t : Tree} (h : val t = (0, 0)) : Vd t := by
  unfold val at h
  by_cases c : 24 < t.length
  · rw [if_pos c] at h; simp at h
  · rw [if_neg c] at h
    obtain ⟨h1, h2, h3, h4⟩ := valL_vd t [] rfl List.Pairwise.nil List.Pairwise.nil (fun _ h => by cases h) (fun _ h => by cases h) h
    exact ⟨by omega, h1, h2, h3, h4⟩
abbrev chgR (f : File) : Chg := (2, (f.1, (L.str1, (f.2, []))))
abbrev chgE (f : File) (p : List Hunk) : Chg := (4, (f.1, (L.str1, ([], p))))
abbrev chgA (f : File) : Chg := (1, (f.1, (L.str1, (f.2, []))))
def lk (b : Tree) (p : ByteArray) : Txt := (b.getD (place b p) noFile).2
def goneF (b : Tree) (f : File) : Patch := if found b f.1 = false then [chgR f] else []
def editF (b : Tree) (f : File) : Patch := if found b f.1 = false then [] else if (sp f.2 (lk b f.1)).length = 0 then [] else [chgE f (sp f.2 (lk b f.1))]
def addF (a : Tree) (f : File) : Patch := if found a f.1 = false then [chgA f] else []
def dp (a b : Tree) : Patch := a.flatMap (goneF b) ++ (a.flatMap (editF b) ++ b.flatMap (addF a))
theorem apL_step {c : Chg} {r : Patch} {i : Nat} {t t' : Tree} (h : mk1 c t = (0, t')) : apL i (c :: r) t = apL (i + 1) r t' := by
  rw [apL, h]; simp
theorem at_mid (u v : Tree) (f : File) : (u ++ f :: v).getD u.length noFile = f := by simp [List.getD]
theorem mk_rem {u v : Tree} {f : File} (h : Srt (u ++ f :: v)) : mk1 (chgR f) (u ++ f :: v) = (0, u ++ v) := by
  obtain ⟨p1, p2⟩ := place_at h
  unfold mk1
  dsimp only
  rw [p1, p2, at_mid]
  rw [if_neg (by decide), if_neg (by decide), if_pos rfl, eqL_refl, if_neg (by decide)]
  unfold del
  congr 1
  have e1 : List.take u.length (u ++ f :: v) = u := List.take_left' rfl
  have e2 : List.drop (u.length + 1) (u ++ f :: v) = v := by rw [List.drop_append]; simp
  rw [e1, e2]
theorem mk_edit {u v : Tree} {f : File} {l : Txt} (h : Srt (u ++ f :: v)) (h1 : lin f.2 = (0, 0)) (h2 : lin l = (0, 0)) : mk1 (chgE f (sp f.2 l)) (u ++ f :: v) = (0, u ++ (f.1, l) :: v) := by
  obtain ⟨p1, p2⟩ := place_at h
  unfold mk1
  dsimp only
  rw [p1, p2, at_mid, sp_apply h1 h2]
  rw [if_neg (by decide), if_neg (by decide), if_neg (by decide), if_neg (by decide), if_neg (fun g => g rfl)]
  unfold setL
  rw [at_mid]
  congr 1
  rw [List.set_append_right _ _ (Nat.le_refl _), Nat.sub_self]
  rfl
theorem mk_add {u v : Tree} {f : File} (h1 : ∀ g, g ∈ u → lt g.1 f.1) (h2 : ∀ g, g ∈ v → lt f.1 g.1) (hr : ∀ g, g ∈ u ++ v → rel g.1 f.1 = false) (hl : (u ++ v).length < 24) : mk1 (chgA f) (u ++ v) = (0, u ++ f :: v) := by
  obtain ⟨p1, p2⟩ := place_new h1 h2
  have hc : clash (u ++ v) f.1 (-1) = false := (clashL_false (u ++ v) 0).2 hr
  unfold mk1
  dsimp only
  rw [if_pos rfl, hc, if_neg (by decide), if_neg (by omega)]
  congr 1
  unfold put
  rw [p2, if_neg (by decide), p1]
  unfold ins
  have e1 : List.take u.length (u ++ v) = u := List.take_left' rfl
  have e2 : List.drop u.length (u ++ v) = v := List.drop_left' rfl
  rw [e1, e2]
  have e3 : (u ++ [((f.1, ([] : Txt)) : File)]) ++ v = u ++ (f.1, []) :: v := by simp
  rw [e3]
  unfold setL
  rw [at_mid, List.set_append_right _ _ (Nat.le_refl _), Nat.sub_self]
  rfl
abbrev inT (b : Tree) (f : File) : Bool := found b f.1
theorem gone_ap {b : Tree} {r : Patch} : ∀ (v u : Tree) (i : Nat), Srt (u ++ v) → apL i (v.flatMap (goneF b) ++ r) (u ++ v) = apL (i + (v.flatMap (goneF b)).length) r (u ++ v.filter (inT b))
  | [], u, i, _ => rfl
  | f :: v, u, i, hs => by
    rw [List.flatMap_cons, List.filter_cons]
    cases c : found b f.1 with
    | true =>
      have e : goneF b f = [] := by unfold goneF; rw [c]; rfl
      rw [e, List.nil_append, if_pos c]
      have h := gone_ap (b := b) (r := r) v (u ++ [f]) i (by simpa using hs)
      simpa using h
    | false =>
      have e : goneF b f = [chgR f] := by unfold goneF; rw [c]; rfl
      rw [e, if_neg (by rw [show inT b f = false from c]; decide)]
      show apL i (chgR f :: (v.flatMap (goneF b) ++ r)) (u ++ f :: v) = _
      rw [apL_step (mk_rem hs)]
      have hs' : Srt (u ++ v) := by
        obtain ⟨h1, h2, h3⟩ := srt_app.1 hs
        exact srt_app.2 ⟨h1, (srt_cons.1 h2).2, fun x hx y hy => h3 x hx y (List.mem_cons_of_mem _ hy)⟩
      rw [gone_ap v u (i + 1) hs']
      congr 1
      simp; omega
theorem edit_ap {b : Tree} {r : Patch} (hb : Vd b) : ∀ (v u : Tree) (i : Nat), Srt (u ++ v.filter (inT b)) → (∀ f, f ∈ v → lin f.2 = (0, 0)) →
    apL i (v.flatMap (editF b) ++ r) (u ++ v.filter (inT b)) = apL (i + (v.flatMap (editF b)).length) r (u ++ (v.filter (inT b)).map fun f => (f.1, lk b f.1))
  | [], u, i, _, _ => rfl
  | f :: v, u, i, hs, hl => by
    rw [List.flatMap_cons]
    rw [List.filter_cons] at hs ⊢
    have hl' : ∀ g, g ∈ v → lin g.2 = (0, 0) := fun g hg => hl g (List.mem_cons_of_mem _ hg)
    cases c : found b f.1 with
    | false =>
      have e : editF b f = [] := by unfold editF; rw [c]; rfl
      have c' : ¬ inT b f = true := by rw [show inT b f = false from c]; decide
      rw [if_neg c'] at hs ⊢
      rw [e, List.nil_append]
      exact edit_ap hb v u i hs hl'
    | true =>
      have c' : inT b f = true := c
      rw [if_pos c'] at hs ⊢
      rw [List.map_cons]
      have hm := found_mem c
      have hlb : lin (lk b f.1) = (0, 0) := hb.lin _ hm.1
      have hs2 : Srt ((u ++ [(f.1, lk b f.1)]) ++ v.filter (inT b)) := by
        obtain ⟨h1, h2, h3⟩ := srt_app.1 hs
        obtain ⟨h4, h5⟩ := srt_cons.1 h2
        refine srt_app.2 ⟨srt_app.2 ⟨h1, List.pairwise_singleton .., fun x hx y hy => ?_⟩, h5, fun x hx y hy => ?_⟩
        · rw [List.mem_singleton.1 hy]; exact h3 x hx f (List.mem_cons_self ..)
        · rcases List.mem_append.1 hx with g | g
          · exact h3 x g y (List.mem_cons_of_mem _ hy)
          · rw [List.mem_singleton.1 g]; exact h4 y hy
      have ih := edit_ap (r := r) hb v (u ++ [(f.1, lk b f.1)])
      by_cases d : (sp f.2 (lk b f.1)).length = 0
      · have e : editF b f = [] := by unfold editF; rw [c, if_neg (by decide), if_pos d]
        have e2 : f = (f.1, lk b f.1) := by
          have := sp_nil (List.length_eq_zero_iff.1 d)
          rw [← this]
        rw [e, List.nil_append]
        have h := ih i hs2 hl'
        rw [List.append_assoc, List.append_assoc, List.singleton_append, List.singleton_append] at h
        rw [← h, ← e2]
      · have e : editF b f = [chgE f (sp f.2 (lk b f.1))] := by unfold editF; rw [c, if_neg (by decide), if_neg d]
        rw [e]
        show apL i (chgE f _ :: (v.flatMap (editF b) ++ r)) (u ++ f :: _) = _
        rw [apL_step (mk_edit hs (hl f (List.mem_cons_self ..)) hlb)]
        have h := ih (i + 1) hs2 hl'
        rw [List.append_assoc, List.append_assoc, List.singleton_append, List.singleton_append] at h
        rw [h]
        congr 1
        simp; omega
theorem add_ap {a b : Tree} {r : Patch} (hb : Vd b) : ∀ (v u : Tree) (i : Nat), b = u ++ v → apL i (v.flatMap (addF a) ++ r) (u ++ v.filter (inT a)) = apL (i + (v.flatMap (addF a)).length) r b
  | [], u, i, e => by rw [e]; rfl
  | f :: v, u, i, e => by
    rw [List.flatMap_cons, List.filter_cons]
    have e' : b = (u ++ [f]) ++ v := by rw [e]; simp
    cases c : found a f.1 with
    | true =>
      have ea : addF a f = [] := by unfold addF; rw [c]; rfl
      rw [ea, List.nil_append, if_pos (show inT a f = true from c)]
      have h := add_ap (a := a) (r := r) hb v (u ++ [f]) i e'
      rw [← h]; simp
    | false =>
      have ea : addF a f = [chgA f] := by unfold addF; rw [c]; rfl
      rw [ea, if_neg (by rw [show inT a f = false from c]; decide)]
      show apL i (chgA f :: (v.flatMap (addF a) ++ r)) (u ++ v.filter (inT a)) = _
      have hs := hb.srt
      rw [e] at hs
      obtain ⟨h1, h2, h3⟩ := srt_app.1 hs
      obtain ⟨h4, h5⟩ := srt_cons.1 h2
      have hr := hb.rel
      rw [e] at hr
      obtain ⟨r1, r2, r3⟩ := List.pairwise_append.1 hr
      obtain ⟨r4, r5⟩ := List.pairwise_cons.1 r2
      have hlen := hb.len
      rw [e] at hlen
      have hf : (v.filter (inT a)).length ≤ v.length := List.length_filter_le ..
      have hrr : ∀ g, g ∈ u ++ v.filter (inT a) → rel g.1 f.1 = false := fun g hg => by
        rcases List.mem_append.1 hg with g1 | g1
        · exact r3 g g1 f (List.mem_cons_self ..)
        · rw [rel_symm]; exact r4 g (List.mem_filter.1 g1).1
      have hll : (u ++ v.filter (inT a)).length < 24 := by
        simp only [List.length_append, List.length_cons] at hlen ⊢; omega
      rw [apL_step (mk_add (f := f) (fun g hg => h3 g hg f (List.mem_cons_self ..)) (fun g hg => h4 g (List.mem_filter.1 hg).1) hrr hll)]
      have h := add_ap (a := a) (r := r) hb v (u ++ [f]) (i + 1) e'
      rw [List.append_assoc, List.singleton_append] at h
      rw [h]
      congr 1
      simp; omega
theorem both_eq {a b : Tree} (ha : Vd a) (hb : Vd b) : ((a.filter (inT b)).map fun f => ((f.1, lk b f.1) : File)) = b.filter (inT a) := by
  refine srt_ext ?_ (hb.srt.sublist List.filter_sublist) fun x => ?_
  · unfold Srt
    rw [List.pairwise_map]
    exact (ha.srt.sublist List.filter_sublist)
  · rw [List.mem_map, List.mem_filter]
    constructor
    · rintro ⟨f, hf, rfl⟩
      obtain ⟨h1, h2⟩ := List.mem_filter.1 hf
      obtain ⟨m1, m2⟩ := found_mem h2
      have : ((f.1, lk b f.1) : File) = b.getD (place b f.1) noFile := Prod.ext m2.symm rfl
      refine ⟨by rw [this]; exact m1, (found_iff ha.srt _).2 ⟨f, h1, rfl⟩⟩
    · rintro ⟨h1, h2⟩
      obtain ⟨f, hf, e⟩ := (found_iff ha.srt _).1 h2
      have hfb : found b f.1 = true := (found_iff hb.srt _).2 ⟨x, h1, e.symm⟩
      obtain ⟨m1, m2⟩ := found_mem hfb
      have : b.getD (place b f.1) noFile = x := srt_uniq hb.srt m1 h1 (by rw [m2, e])
      refine ⟨f, List.mem_filter.2 ⟨hf, hfb⟩, ?_⟩
      unfold lk
      rw [this, e]
theorem dp_ap {a b : Tree} (ha : Vd a) (hb : Vd b) : apL 0 (dp a b) a = (b, (0, 0)) := by
  unfold dp
  have h1 := gone_ap (b := b) (r := a.flatMap (editF b) ++ b.flatMap (addF a)) a [] 0 ha.srt
  rw [List.nil_append, List.nil_append] at h1
  rw [h1]
  have h2 := edit_ap (r := b.flatMap (addF a)) hb a [] (0 + (a.flatMap (goneF b)).length) (by rw [List.nil_append]; exact ha.srt.sublist List.filter_sublist) ha.lin
  rw [List.nil_append, List.nil_append] at h2
  rw [h2, both_eq ha hb]
  have h3 := add_ap (a := a) (r := []) hb b [] (0 + (a.flatMap (goneF b)).length + (a.flatMap (editF b)).length) rfl
  rw [List.append_nil, List.nil_append] at h3
  rw [h3, apL]
theorem vPL_all : ∀ (p : Patch) (i : Nat), (∀ c, c ∈ p → chk c = 0) → vPL i p = (0, 0)
  | [], _, _ => rfl
  | c :: r, i, h => by
    rw [vPL, h c (List.mem_cons_self ..)]
    simp only [ne_eq, not_true, if_false]
    exact vPL_all r _ fun d hd => h d (List.mem_cons_of_mem _ hd)
theorem chk_plain {k : Int} {p : ByteArray} {l : Txt} {hs : List Hunk} (hk : k = 1 ∨ k = 2 ∧ True ∨ k = 4) (h4 : k = 4 ↔ 0 < hs.length) (h40 : k = 4 → l = []) (hp : La.vp_R p = true) (hl : lin l = (0, 0)) (ht : tpV hs = (0, 0)) : chk (k, (p, (L.str1, (l, hs)))) = 0 := by
  unfold chk
  dsimp only
  have h3 : (k == 3) = false := by rw [beq_eq_false_iff_ne]; omega
  rw [if_neg (by omega), hp, if_neg (by decide), h3]
  simp only [Bool.false_and, Bool.not_false, Bool.true_and, Bool.false_eq_true, if_false, beq_self_eq_true, Bool.not_true]
  unfold chk1
  dsimp only
  rw [h3]
  have e1 : (decide (0 < l.length) && (k == 4 || false)) = false := by
    by_cases c : k = 4
    · rw [h40 c]; rfl
    · have : (k == 4) = false := by rw [beq_eq_false_iff_ne]; exact c
      rw [this]; simp
  rw [e1, if_neg (by decide)]
  have e2 : (!(k == 4) == decide (0 < hs.length)) = false := by
    by_cases c : k = 4
    · rw [decide_eq_true (h4.1 c), c]; rfl
    · have : (k == 4) = false := by rw [beq_eq_false_iff_ne]; exact c
      rw [decide_eq_false (fun g => c (h4.2 g)), this]; rfl
  rw [e2, if_neg (by decide)]
  unfold chk2
  dsimp only
  rw [if_neg (fun g => g hl), ht]
theorem dp_valid {a b : Tree} (ha : Vd a) (hb : Vd b) (hl : (dp a b).length ≤ 30) : vP (dp a b) = (0, 0) := by
  unfold vP
  rw [if_neg (by omega)]
  refine vPL_all _ _ fun c hc => ?_
  unfold dp at hc
  rcases List.mem_append.1 hc with h | h
  · obtain ⟨f, hf, h⟩ := List.mem_flatMap.1 h
    unfold goneF at h
    split at h
    · rw [List.mem_singleton.1 h]
      exact chk_plain (.inr (.inl ⟨rfl, trivial⟩)) (by simp) (by simp) (ha.vp f hf) (ha.lin f hf) rfl
    · cases h
  · rcases List.mem_append.1 h with h | h
    · obtain ⟨f, hf, h⟩ := List.mem_flatMap.1 h
      unfold editF at h
      split at h
      · cases h
      · next c1 =>
        split at h
        · cases h
        · next c2 =>
          rw [List.mem_singleton.1 h]
          have hm := found_mem (show found b f.1 = true from by simpa using c1)
          exact chk_plain (.inr (.inr rfl)) (by simp only [true_iff]; omega) (fun _ => rfl) (ha.vp f hf) rfl (sp_valid (ha.lin f hf) (hb.lin _ hm.1)).1
    · obtain ⟨f, hf, h⟩ := List.mem_flatMap.1 h
      unfold addF at h
      split at h
      · rw [List.mem_singleton.1 h]
        exact chk_plain (.inl rfl) (by simp) (by simp) (hb.vp f hf) (hb.lin f hf) rfl
      · cases h
theorem dp_self {a : Tree} (ha : Vd a) : dp a a = [] := by
  have hf : ∀ f, f ∈ a → found a f.1 = true := fun f hf => (found_iff ha.srt _).2 ⟨f, hf, rfl⟩
  unfold dp
  have e1 : a.flatMap (goneF a) = [] := List.flatMap_eq_nil_iff.2 fun f h => by unfold goneF; rw [hf f h]; rfl
  have e2 : a.flatMap (editF a) = [] := List.flatMap_eq_nil_iff.2 fun f h => by
    have hm := found_mem (hf f h)
    have : a.getD (place a f.1) noFile = f := srt_uniq ha.srt hm.1 h hm.2
    unfold editF lk
    rw [hf f h, if_neg (by decide), this, sp_self]
    rfl
  have e3 : a.flatMap (addF a) = [] := List.flatMap_eq_nil_iff.2 fun f h => by unfold addF; rw [hf f h]; rfl
  rw [e1, e2, e3]; rfl
end Tp
end Go.Proofs.YtkpplfghhciacaaDoor
set_option linter.unusedVariables false
set_option linter.unusedSimpArgs false
namespace Go.Proofs.YtkpplfghhciacaaDoor
open Eng Bb Dg
namespace Ph
theorem mul_loop {K : Int → Prop} : ∀ (fu b : Nat) (a out : Int), b < 2 ^ fu → fu ≤ 60 → dg a → dg out → K ((out + a * b) % 2305843009213693951) → L.c2_L1_R (fu + 1) a b out K
  | fu, b, a, out, hb, hf, ha, ho, hK => by
    have hlt : (2 : Nat) ^ fu ≤ 2 ^ 60 := Nat.pow_le_pow_right (by omega) hf
    have h60 : (2 : Nat) ^ 60 = 1152921504606846976 := by decide
    show L.c2_L1_b a b out _ _
    unfold L.c2_L1_b
    obtain ⟨ha1, ha2⟩ := ha
    obtain ⟨ho1, ho2⟩ := ho
    rcases Nat.eq_zero_or_pos b with rfl | hpos
    · refine cond_f (by simp) ?_
      have : (out + a * ((0 : Nat) : Int)) % 2305843009213693951 = out := by
        simp only [Int.natCast_zero, Int.mul_zero, Int.add_zero]; omega
      rw [this] at hK
      exact hK
    · refine cond_t (by simp; omega) ?_
      obtain ⟨f, rfl⟩ : ∃ f, fu = f + 1 := by
        cases fu with
        | zero => omega
        | succ f => exact ⟨f, rfl⟩
      have hb2 : b / 2 < 2 ^ f := by rw [Nat.pow_succ] at hb; omega
      rw [bit1, half1]
      rw [i64_id (n := (2 : Int) * a) (by omega) (by omega), tmod_pos (by omega)]
      have hda : dg (2 * a % 2305843009213693951) := by unfold dg; omega
      rcases Nat.mod_two_eq_zero_or_one b with h | h
      · rw [h]
        refine cond_f (by decide) ⟨by decide, by decide, ?_⟩
        refine mul_loop f (b / 2) _ out hb2 (by omega) hda ⟨ho1, ho2⟩ ?_
        rw [step0 h]; exact hK
      · rw [h]
        refine cond_t (by decide) ⟨by decide, by decide, by decide, ?_⟩
        rw [i64_id (n := out + a) (by omega) (by omega), tmod_pos (by omega)]
        refine mul_loop f (b / 2) _ _ hb2 (by omega) hda (by unfold dg; omega) ?_
        rw [step1 h]; exact hK
theorem mul_ok {a : Int} {b : Nat} (ha : dg a) (hb : b < 1048576) {K : Int → Prop} (hK : K (a * b % 2305843009213693951)) : L.c2 a b K :=
  ⟨⟨⟨21, mul_loop 20 b a 0 hb (by omega) ha ⟨by omega, by omega⟩ (by rw [Int.zero_add]; exact hK)⟩⟩⟩
theorem next_ok {s0 s1 : Int} {f : Nat} (h0 : dg s0) (h1 : 0 ≤ s1 ∧ s1 ≤ 2305843009213693951) (hf : f < 1048576) {K : Int → Prop} (hK : K ((s0 * f % 2305843009213693951 + s1) % 2305843009213693951)) : L.e0 s0 s1 f K := by
  constructor
  unfold L.e0_B
  refine ⟨inB_of (by omega) (by omega), by decide, mul_ok h0 hf ⟨inB_of (by omega) (by omega), by decide, by decide, ?_⟩⟩
  rw [show ([s0, s1] : List Int).getD ((1 : Int).toNat) 0 = s1 from rfl, i64_id (by omega) (by omega), tmod_pos (by omega)]
  exact hK
theorem pair_ok {a b : Int} (ha : dg a) (hb : dg b) {K : Int → Prop} (hK : K (pr a b)) : L.e5 a b K := by
  constructor
  unfold L.e5_B
  refine next_ok (f := 31) hb (by omega) (by omega) (next_ok (f := 1000003) ha (by omega) (by omega) ?_)
  have : (a * ((1000003 : Nat) : Int) % 2305843009213693951 + (b * ((31 : Nat) : Int) % 2305843009213693951 + 7) % 2305843009213693951) % 2305843009213693951 = pr a b := by unfold pr; omega
  rw [this]; exact hK
def pq (a b : Int) : Int := if 0 ≤ a ∧ a < 2305843009213693951 then (if 0 ≤ b ∧ b < 2305843009213693951 then pr a b else 0) else 0
theorem is_ok {a : Int} {K : Bool → Prop} (hK : K (decide (0 ≤ a ∧ a < 2305843009213693951))) : L.e7 a K := by
  constructor
  unfold L.e7_B
  have : (bif (decide (a ≥ 0)) then (decide (a < 2305843009213693951)) else false) = decide (0 ≤ a ∧ a < 2305843009213693951) := by
    by_cases h1 : a ≥ 0
    · rw [decide_eq_true h1]
      by_cases h2 : a < 2305843009213693951
      · rw [decide_eq_true h2, decide_eq_true (p := 0 ≤ a ∧ a < 2305843009213693951) ⟨h1, h2⟩]; rfl
      · rw [decide_eq_false h2, decide_eq_false (p := 0 ≤ a ∧ a < 2305843009213693951) (fun g => h2 g.2)]; rfl
    · rw [decide_eq_false h1, decide_eq_false (p := 0 ≤ a ∧ a < 2305843009213693951) (fun g => h1 g.1)]; rfl
  rw [this]; exact hK
theorem Pair_ok {a b : Int} {K : Int → Int → Int → Prop} (hK : ∀ x y, K (pq a b) x y) : L.b3 a b K := by
  unfold pq at hK
  refine ⟨⟨3, ?_⟩⟩
  show L.b3_L1_b a b 0 _ _ _
  unfold L.b3_L1_b
  refine cond_t rfl ⟨inB_of (by omega) (by omega), is_ok ?_⟩
  show (bif (!(decide (0 ≤ a ∧ a < 2305843009213693951))) then _ else _)
  by_cases h1 : 0 ≤ a ∧ a < 2305843009213693951
  · rw [decide_eq_true h1]
    simp only [if_pos h1] at hK
    refine cond_f rfl ?_
    show L.b3_L1_b a b 1 _ _ _
    unfold L.b3_L1_b
    refine cond_t rfl ⟨inB_of (by omega) (by omega), is_ok ?_⟩
    show (bif (!(decide (0 ≤ b ∧ b < 2305843009213693951))) then _ else _)
    by_cases h2 : 0 ≤ b ∧ b < 2305843009213693951
    · rw [decide_eq_true h2]
      simp only [if_pos h2] at hK
      refine cond_f rfl ?_
      show L.b3_L1_b a b 2 _ _ _
      unfold L.b3_L1_b
      exact cond_f rfl (pair_ok h1 h2 (hK 0 0))
    · rw [decide_eq_false h2]
      simp only [if_neg h2] at hK
      exact cond_t rfl (hK 3 1)
  · rw [decide_eq_false h1]
    simp only [if_neg h1] at hK
    exact cond_t rfl (hK 3 0)
theorem comb_loop {l : List Int} (hl : l.length ≤ 1000) {K : Int → Prop} : ∀ (fu i : Nat) (h : Int), i ≤ l.length → l.length - i < fu → K ((l.drop i).foldl pq h) → L.a6_L1_R l (l.length : Int) fu h (i : Int) K
  | 0, i, h, _, g, _ => by omega
  | fu + 1, i, h, hi, g, hK => by
    show L.a6_L1_b _ _ _ _ _ _
    unfold L.a6_L1_b
    rcases Nat.lt_or_ge i l.length with c | c
    · rw [Dg.drop_cons 0 c, List.foldl_cons] at hK
      have es : i64 ((i : Int) + 1) = ((i + 1 : Nat) : Int) := by rw [i64_id (by omega) (by omega)]; omega
      refine cond_t (by simp; omega) ⟨inB_of (by omega) (by omega), ?_⟩
      rw [Int.toNat_natCast, es]
      exact Pair_ok fun _ _ => comb_loop hl fu (i + 1) _ c (by omega) hK
    · rw [List.drop_eq_nil_of_le c] at hK
      exact cond_f (by simp; omega) hK
def cmb (h : Int) (l : List Int) : Int := l.foldl pq h
theorem comb_ok {l : List Int} (hl : l.length ≤ 1000) {h : Int} {K : Int → Prop} (hK : K (cmb h l)) : L.a6 h l K :=
  ⟨⟨l.length + 1, comb_loop hl _ 0 h (by omega) (by omega) hK⟩⟩
theorem text_ok {s : ByteArray} {K : Int → Prop} (hK : K (text_R s)) : L.c7 s K := ⟨hK⟩
theorem list_ok {l : List ByteArray} {K : Int → Prop} (hK : K (strings_R l).1) : L.c5 l K := ⟨⟨hK⟩⟩
def pdH (h : Int) (x : Tp.Hunk) : Int := cmb h [x.1, (strings_R x.2.1).1, (strings_R x.2.2).1]
def pdC (h : Int) (c : Tp.Chg) : Int := c.2.2.2.2.foldl pdH (cmb h [c.1, text_R c.2.1, text_R c.2.2.1, (strings_R c.2.2.2.1).1])
def pd (p : Tp.Patch) : Int := p.foldl pdC 3
theorem hunks_loop {l : List Tp.Hunk} (hl : l.length ≤ 1000) {K : Int → Prop} : ∀ (fu i : Nat) (h : Int), i ≤ l.length → l.length - i < fu → K ((l.drop i).foldl pdH h) → L.a0_L1_R l (l.length : Int) fu h (i : Int) K
  | 0, i, h, _, g, _ => by omega
  | fu + 1, i, h, hi, g, hK => by
    show L.a0_L1_b _ _ _ _ _ _
    unfold L.a0_L1_b
    rcases Nat.lt_or_ge i l.length with c | c
    · rw [Dg.drop_cons Tp.noHunk c, List.foldl_cons] at hK
      have es : i64 ((i : Int) + 1) = ((i + 1 : Nat) : Int) := by rw [i64_id (by omega) (by omega)]; omega
      refine cond_t (by simp; omega) ⟨inB_of (by omega) (by omega), ?_⟩
      rw [Int.toNat_natCast, es]
      have fin := hunks_loop hl fu (i + 1) _ c (by omega) hK
      repeat' first | exact fin | refine And.intro ?_ ?_ | refine list_ok ?_ | refine comb_ok (Nat.le_of_ble_eq_true rfl) ?_
    · rw [List.drop_eq_nil_of_le c] at hK
      exact cond_f (by simp; omega) hK
theorem J1_ok {l : List Tp.Hunk} (hl : l.length ≤ 1000) {h : Int} {m : List Int} {K : Int → List Int → Prop} (hK : K (l.foldl pdH h) m) : L.a0_J1 h l m K :=
  ⟨⟨l.length + 1, hunks_loop hl _ 0 h (by omega) (by omega) hK⟩⟩
theorem chgs_loop {l : Tp.Patch} (hl : l.length ≤ 1000) (hh : ∀ c, c ∈ l → c.2.2.2.2.length ≤ 1000) {K : Int → Prop} : ∀ (fu i : Nat) (h : Int), i ≤ l.length → l.length - i < fu → K ((l.drop i).foldl pdC h) → L.a0_L2_R l (l.length : Int) fu h (i : Int) K
  | 0, i, h, _, g, _ => by omega
  | fu + 1, i, h, hi, g, hK => by
    show L.a0_L2_b _ _ _ _ _ _
    unfold L.a0_L2_b
    rcases Nat.lt_or_ge i l.length with c | c
    · rw [Dg.drop_cons Tp.noChg c, List.foldl_cons] at hK
      have es : i64 ((i : Int) + 1) = ((i + 1 : Nat) : Int) := by rw [i64_id (by omega) (by omega)]; omega
      have hm := hh _ (getD_mem Tp.noChg c)
      refine cond_t (by simp; omega) ⟨inB_of (by omega) (by omega), ?_⟩
      rw [Int.toNat_natCast, es]
      have fin := chgs_loop hl hh fu (i + 1) _ c (by omega) hK
      generalize L.a0_L2_R l (l.length : Int) fu = F at fin ⊢
      repeat' first | exact fin | refine And.intro ?_ ?_ | refine text_ok ?_ | refine list_ok ?_ | refine comb_ok (Nat.le_of_ble_eq_true rfl) ?_ | refine J1_ok hm ?_
    · rw [List.drop_eq_nil_of_le c] at hK
      exact cond_f (by simp; omega) hK
theorem chk_hunks {c : Tp.Chg} (h : Tp.chk c = 0) : c.2.2.2.2.length ≤ 130 := by
  unfold Tp.chk at h
  by_cases c1 : c.1 < 1 ∨ 4 < c.1
  · rw [if_pos c1] at h; simp at h
  rw [if_neg c1] at h
  by_cases c2 : La.vp_R c.2.1 = false
  · rw [if_pos c2] at h; simp at h
  rw [if_neg c2] at h
  by_cases c3 : (c.1 == 3 && !La.vp_R c.2.2.1) = true
  · rw [if_pos c3] at h; simp at h
  rw [if_neg c3] at h
  by_cases c4 : (!(c.1 == 3) && !(c.2.2.1.toList == L.str1.toList)) = true
  · rw [if_pos c4] at h; simp at h
  rw [if_neg c4] at h
  by_cases c5 : (c.1 == 3 && Tp.rel c.2.1 c.2.2.1) = true
  · rw [if_pos c5] at h; simp at h
  rw [if_neg c5] at h
  unfold Tp.chk1 at h
  by_cases c6 : (decide (0 < c.2.2.2.1.length) && (c.1 == 4 || c.1 == 3)) = true
  · rw [if_pos c6] at h; simp at h
  rw [if_neg c6] at h
  by_cases c7 : (!(c.1 == 4) == decide (0 < c.2.2.2.2.length)) = true
  · rw [if_pos c7] at h; simp at h
  rw [if_neg c7] at h
  unfold Tp.chk2 at h
  by_cases c8 : Tp.lin c.2.2.2.1 ≠ (0, 0)
  · rw [if_pos c8] at h; exact absurd (Tp.lin_zero _ h) c8
  rw [if_neg c8] at h
  exact (Tp.tpV_len (Tp.tpV_zero h)).1
theorem vPL_hunks : ∀ (p : Tp.Patch) (i : Nat), Tp.vPL i p = (0, 0) → ∀ c, c ∈ p → c.2.2.2.2.length ≤ 130
  | [], _, _, _, h => by cases h
  | a :: r, i, h, c, hc => by
    rw [Tp.vPL] at h
    by_cases c1 : Tp.chk a ≠ 0
    · rw [if_pos c1] at h; exact absurd (congrArg Prod.fst h) c1
    · rw [if_neg c1] at h
      rcases List.mem_cons.1 hc with e | e
      · rw [e]; exact chk_hunks (Decidable.not_not.1 c1)
      · exact vPL_hunks r _ h c e
theorem pd_ok {p : Tp.Patch} (hv : Tp.vP p = (0, 0)) {K : Int → Int → Int → Prop} (hK : K (pd p) 0 0) : L.a0 p K := by
  refine ⟨Tp.vP_ok ?_⟩
  rw [hv]
  have hl := (Tp.vP_good hv).1
  have hh : ∀ c, c ∈ p → c.2.2.2.2.length ≤ 130 := by
    unfold Tp.vP at hv
    rw [if_neg (by omega)] at hv
    exact vPL_hunks p 0 hv
  exact cond_f rfl ⟨p.length + 1, chgs_loop (by omega) (fun c hc => by have := hh c hc; omega) _ 0 3 (by omega) (by omega) hK⟩
end Ph
end Go.Proofs.YtkpplfghhciacaaDoor
set_option linter.unusedVariables false
set_option linter.unusedSimpArgs false
namespace Go.Proofs.YtkpplfghhciacaaDoor
open Eng Bb
namespace Tp
theorem edit_ok {b : Tree} {f : File} {ed : Patch} (h : ed.length ≤ 900) (hb : found b f.1 = true) {K : Patch → Prop} (hK : K (ed ++ editF b f)) : L.a2_J1 ed f.1 (sp f.2 (lk b f.1)) K := by
  constructor
  unfold L.a2_J1_B
  unfold editF at hK
  rw [hb, if_neg (by decide)] at hK
  by_cases c : (sp f.2 (lk b f.1)).length = 0
  · rw [if_pos c, List.append_nil] at hK
    exact cond_f (by rw [c]; rfl) hK
  · rw [if_neg c] at hK
    exact cond_t (decide_eq_true (by omega)) ⟨fits_of (by simp; omega), hK⟩
theorem one_len {b : Tree} {f : File} : (goneF b f).length ≤ 1 ∧ (editF b f).length ≤ 1 ∧ (addF b f).length ≤ 1 := by
  unfold goneF editF addF
  refine ⟨?_, ?_, ?_⟩ <;> (repeat' split) <;> simp
theorem diff1_loop {a b : Tree} (ha : Vd a) (hb : Vd b) {K : Patch → Patch → Prop} : ∀ (fu i : Nat) (g e : Patch), i ≤ a.length → a.length - i < fu → g.length ≤ i → e.length ≤ i → K (g ++ (a.drop i).flatMap (goneF b)) (e ++ (a.drop i).flatMap (editF b)) → L.a2_L1_R a (a.length : Int) b fu (i : Int) g e K
  | 0, i, g, e, _, h, _, _, _ => by omega
  | fu + 1, i, g, e, hi, h, hg, he, hK => by
    have hal := ha.len
    show L.a2_L1_b _ _ _ _ _ _ _ _
    unfold L.a2_L1_b
    rcases Nat.lt_or_ge i a.length with c | c
    · rw [drop_cons noFile c, List.flatMap_cons, List.flatMap_cons, ← List.append_assoc, ← List.append_assoc] at hK
      have hm := getD_mem noFile c
      generalize ef : a.getD i noFile = f at hK hm
      have es : i64 ((i : Int) + 1) = ((i + 1 : Nat) : Int) := by rw [i64_id (by omega) (by omega)]; omega
      obtain ⟨n1, n2, _⟩ := one_len (b := b) (f := f)
      have ih := diff1_loop ha hb fu (i + 1) (g ++ goneF b f) (e ++ editF b f) c (by omega) (by rw [List.length_append]; omega) (by rw [List.length_append]; omega) hK
      refine cond_t (by simp; omega) ⟨inB_of (by omega) (by omega), ?_⟩
      rw [Int.toNat_natCast, es]
      rw [show a.getD i (ByteArray.empty, []) = f from ef]
      refine find_ok hb.len ?_
      have hl2 := lin_len (ha.lin f hm)
      cases d : found b f.1 with
      | false =>
        have e1 : goneF b f = [chgR f] := by unfold goneF; rw [d]; rfl
        have e2 : editF b f = [] := by unfold editF; rw [d]; rfl
        rw [e1, e2, List.append_nil] at ih
        have fin := And.intro (fits_of (n := (g ++ [chgR f]).length) (by rw [List.length_append]; simp; omega)) ih
        rw [List.length_append] at fin
        exact cond_t rfl ⟨clone_ok hl2 fin, clone_ok hl2 fin⟩
      | true =>
        have e1 : goneF b f = [] := by unfold goneF; rw [d]; rfl
        rw [e1, List.append_nil] at ih
        have hlt := found_lt d
        have hbm := (found_mem d).1
        have fin := edit_ok (ed := e) (f := f) (b := b) (K := fun x => L.a2_L1_R a (a.length : Int) b fu ((i + 1 : Nat) : Int) g x K) (by omega) d ih
        have scr : ∀ {Kx : List Hunk → Int → Int → Prop}, Kx (sp f.2 (lk b f.1)) 0 0 → L.a8 f.2 ((b.getD ((place b f.1 : Nat) : Int).toNat (ByteArray.empty, [])).2) Kx := fun h => by
          rw [Int.toNat_natCast]
          exact script_ok (ha.lin f hm) (hb.lin _ hbm) h
        refine cond_f rfl ⟨inB_of (by omega) (by omega), ?_⟩
        repeat' first | exact fin | refine And.intro ?_ ?_ | refine scr ?_
    · rw [List.drop_eq_nil_of_le c] at hK
      simp only [List.flatMap_nil, List.append_nil] at hK
      exact cond_f (by simp; omega) hK
theorem diff2_loop {a b : Tree} (ha : Vd a) (hb : Vd b) {K : Patch → Prop} : ∀ (fu i : Nat) (g : Patch), i ≤ b.length → b.length - i < fu → g.length ≤ i → K (g ++ (b.drop i).flatMap (addF a)) → L.a2_L2_R b (b.length : Int) a fu (i : Int) g K
  | 0, i, g, _, h, _, _ => by omega
  | fu + 1, i, g, hi, h, hg, hK => by
    have hbl := hb.len
    show L.a2_L2_b _ _ _ _ _ _ _
    unfold L.a2_L2_b
    rcases Nat.lt_or_ge i b.length with c | c
    · rw [drop_cons noFile c, List.flatMap_cons, ← List.append_assoc] at hK
      have hm := getD_mem noFile c
      generalize ef : b.getD i noFile = f at hK hm
      have es : i64 ((i : Int) + 1) = ((i + 1 : Nat) : Int) := by rw [i64_id (by omega) (by omega)]; omega
      obtain ⟨_, _, n3⟩ := one_len (b := a) (f := f)
      have ih := diff2_loop ha hb fu (i + 1) (g ++ addF a f) c (by omega) (by rw [List.length_append]; omega) hK
      refine cond_t (by simp; omega) ⟨inB_of (by omega) (by omega), ?_⟩
      rw [Int.toNat_natCast, es]
      rw [show b.getD i (ByteArray.empty, []) = f from ef]
      refine find_ok ha.len ?_
      have hl2 := lin_len (hb.lin f hm)
      cases d : found a f.1 with
      | false =>
        have e1 : addF a f = [chgA f] := by unfold addF; rw [d]; rfl
        rw [e1] at ih
        have fin := And.intro (fits_of (n := (g ++ [chgA f]).length) (by rw [List.length_append]; simp; omega)) ih
        rw [List.length_append] at fin
        exact cond_t rfl ⟨clone_ok hl2 fin, clone_ok hl2 fin⟩
      | true =>
        have e1 : addF a f = [] := by unfold addF; rw [d]; rfl
        rw [e1, List.append_nil] at ih
        exact cond_f rfl ih
    · rw [List.drop_eq_nil_of_le c] at hK
      simp only [List.flatMap_nil, List.append_nil] at hK
      exact cond_f (by simp; omega) hK
def tot (l : List Patch) : Nat := (l.map List.length).sum
theorem cat1_loop {l : List Patch} (hl : l.length ≤ 900) (ht : tot l ≤ 900) {K : Int → Prop} : ∀ (fu i n : Nat), i ≤ l.length → l.length - i < fu → n + tot (l.drop i) ≤ 900 → K ((n + tot (l.drop i) : Nat) : Int) → L.a4_L1_R l (l.length : Int) fu (n : Int) (i : Int) K
  | 0, i, n, _, h, _, _ => by omega
  | fu + 1, i, n, hi, h, hn, hK => by
    show L.a4_L1_b _ _ _ _ _ _
    unfold L.a4_L1_b
    rcases Nat.lt_or_ge i l.length with c | c
    · rw [drop_cons ([] : Patch) c] at hK hn
      have e : tot (l.getD i [] :: l.drop (i + 1)) = (l.getD i []).length + tot (l.drop (i + 1)) := by unfold tot; simp
      rw [e] at hK hn
      have es : i64 ((i : Int) + 1) = ((i + 1 : Nat) : Int) := by rw [i64_id (by omega) (by omega)]; omega
      have en : i64 ((n : Int) + ((l.getD i []).length : Int)) = ((n + (l.getD i []).length : Nat) : Int) := by rw [i64_id (by omega) (by omega)]; omega
      refine cond_t (by simp; omega) ⟨inB_of (by omega) (by omega), ?_⟩
      rw [Int.toNat_natCast, es, en]
      refine cond_f (decide_eq_false (by omega)) ?_
      exact cat1_loop hl ht fu (i + 1) _ c (by omega) (by omega) (by rw [Nat.add_assoc]; exact hK)
    · rw [List.drop_eq_nil_of_le c] at hK
      exact cond_f (by simp; omega) hK
theorem cat2_loop {l : List Patch} (hl : l.length ≤ 900) {K : Patch → Prop} : ∀ (fu i : Nat) (o : Patch), i ≤ l.length → l.length - i < fu → o.length + tot (l.drop i) ≤ 900 → K (o ++ (l.drop i).flatten) → L.a4_L2_R l (l.length : Int) fu (i : Int) o K
  | 0, i, n, _, h, _, _ => by omega
  | fu + 1, i, o, hi, h, hn, hK => by
    show L.a4_L2_b _ _ _ _ _ _
    unfold L.a4_L2_b
    rcases Nat.lt_or_ge i l.length with c | c
    · rw [drop_cons ([] : Patch) c] at hK hn
      have e : tot (l.getD i [] :: l.drop (i + 1)) = (l.getD i []).length + tot (l.drop (i + 1)) := by unfold tot; simp
      rw [e] at hn
      rw [List.flatten_cons, ← List.append_assoc] at hK
      have es : i64 ((i : Int) + 1) = ((i + 1 : Nat) : Int) := by rw [i64_id (by omega) (by omega)]; omega
      refine cond_t (by simp; omega) ⟨inB_of (by omega) (by omega), ?_⟩
      rw [Int.toNat_natCast, es]
      exact ⟨fits_of (by omega), cat2_loop hl fu (i + 1) _ c (by omega) (by rw [List.length_append]; omega) hK⟩
    · rw [List.drop_eq_nil_of_le c] at hK
      simp only [List.flatten_nil, List.append_nil] at hK
      exact cond_f (by simp; omega) hK
theorem grow_ok {n : Nat} (h : n ≤ 900) {K : Patch → Prop} (hK : K []) : L.d1 (n : Int) K := by
  constructor
  unfold L.d1_B
  refine cond_f (decide_eq_false (by omega)) ?_
  have e : i64 ((n : Int) - (i64 ((0 : Int) - 0))) = (n : Int) := by
    rw [i64_id (n := (0 : Int) - 0) (by omega) (by omega), i64_id (by omega) (by omega)]; omega
  rw [e]
  by_cases c : n = 0
  · subst c; exact cond_f rfl hK
  · exact cond_t (decide_eq_true (by omega)) ⟨rfl, ⟨by omega, by omega⟩, ⟨by omega, by omega⟩, by rw [List.take_zero]; exact hK⟩
theorem concat_ok {l : List Patch} (hl : l.length ≤ 900) (ht : tot l ≤ 900) {K : Patch → Prop} (hK : K l.flatten) : L.a4 l K := by
  constructor
  unfold L.a4_B
  refine ⟨l.length + 1, ?_⟩
  refine cat1_loop hl ht _ 0 0 (Nat.zero_le _) (by omega) (by rw [List.drop_zero]; omega) ?_
  rw [List.drop_zero, Nat.zero_add]
  exact grow_ok ht ⟨l.length + 1, cat2_loop hl _ 0 [] (Nat.zero_le _) (by omega) (by simpa using ht) (by simpa using hK)⟩
theorem flat_len {f : File → Patch} (h : ∀ x, (f x).length ≤ 1) : ∀ t : Tree, (t.flatMap f).length ≤ t.length
  | [] => Nat.le_refl _
  | x :: t => by
    rw [List.flatMap_cons, List.length_append, List.length_cons]
    have := h x
    have := flat_len h t
    omega
def df (a b : Tree) : Int × Int × Patch :=
  if val a ≠ (0, 0) then ((val a).1, ((val a).2, [])) else if sec (val b) (-2) ≠ (0, 0) then ((sec (val b) (-2)).1, ((sec (val b) (-2)).2, [])) else
    if 30 < (dp a b).length then (10, (-1, [])) else (0, (0, dp a b))
theorem df_ok {a b : Tree} {K : Int → Int → Patch → Prop} (hK : K (df a b).1 (df a b).2.1 (df a b).2.2) : L.a2 a b K := by
  refine ⟨val_ok ?_⟩
  unfold df at hK
  by_cases c1 : val a ≠ (0, 0)
  · rw [if_pos c1] at hK; exact cond_t (fault1 c1) ⟨hK, hK⟩
  rw [if_neg c1] at hK
  have c1' := Decidable.not_not.1 c1
  refine cond_f (fault0 c1') (valS_ok ?_)
  by_cases c2 : sec (val b) (-2) ≠ (0, 0)
  · rw [if_pos c2] at hK; exact cond_t (fault1 c2) ⟨hK, hK⟩
  rw [if_neg c2] at hK
  have c2' := Decidable.not_not.1 c2
  have ha := val_vd c1'
  have hb := val_vd (sec_zero val_zero c2')
  have hal := ha.len
  have hbl := hb.len
  have n1 : (a.flatMap (goneF b)).length ≤ a.length := flat_len (fun x => one_len.1) a
  have n2 : (a.flatMap (editF b)).length ≤ a.length := flat_len (fun x => one_len.2.1) a
  have n3 : (b.flatMap (addF a)).length ≤ b.length := flat_len (fun x => one_len.2.2) b
  refine cond_f (fault0 c2') ⟨a.length + 1, diff1_loop ha hb _ 0 [] [] (Nat.zero_le _) (by omega) (Nat.le_refl _) (Nat.le_refl _) ?_⟩
  rw [List.drop_zero, List.nil_append, List.nil_append]
  refine ⟨b.length + 1, diff2_loop ha hb _ 0 [] (Nat.zero_le _) (by omega) (Nat.le_refl _) ?_⟩
  rw [List.drop_zero, List.nil_append]
  refine concat_ok (by simp) (by unfold tot; simp only [List.map_cons, List.map_nil, List.sum_cons, List.sum_nil]; omega) ?_
  have e : ([a.flatMap (goneF b), a.flatMap (editF b), b.flatMap (addF a)] : List Patch).flatten = dp a b := by unfold dp; simp
  rw [e]
  by_cases c3 : 30 < (dp a b).length
  · rw [if_pos c3] at hK; exact cond_t (decide_eq_true (by omega)) hK
  · rw [if_neg c3] at hK; exact cond_f (decide_eq_false (by omega)) hK
theorem eqS_loop {l m : Txt} (hl : l.length ≤ 1000) (he : l.length = m.length) {K : Bool → Prop} : ∀ (fu i : Nat), i ≤ l.length → l.length - i < fu → K (eqL (l.drop i) (m.drop i)) → L.b7_L1_R l m fu (i : Int) (K true) K
  | 0, i, _, h, _ => by omega
  | fu + 1, i, hi, h, hK => by
    show L.b7_L1_b _ _ _ _ _ _
    unfold L.b7_L1_b
    rcases Nat.lt_or_ge i l.length with g | g
    · rw [drop_cons ByteArray.empty g, drop_cons ByteArray.empty (show i < m.length by omega), eqL] at hK
      have es : i64 ((i : Int) + 1) = ((i + 1 : Nat) : Int) := by rw [i64_id (by omega) (by omega)]; omega
      rw [es]
      refine cond_t (by simp; omega) ⟨inB_of (by omega) (by omega), inB_of (by omega) (by omega), ?_⟩
      rw [Int.toNat_natCast]
      cases c : ((l.getD i ByteArray.empty).toList == (m.getD i ByteArray.empty).toList) with
      | false => rw [c] at hK; exact cond_t rfl hK
      | true => rw [c] at hK; exact cond_f rfl (eqS_loop hl he fu (i + 1) g (by omega) hK)
    · rw [List.drop_eq_nil_of_le g, List.drop_eq_nil_of_le (by omega)] at hK
      exact cond_f (by simp; omega) hK
theorem eqS_ok {l m : Txt} (hl : l.length ≤ 1000) {K : Bool → Prop} (hK : K (eqL l m)) : L.b7 l m K := by
  constructor
  unfold L.b7_B
  by_cases c : l.length = m.length
  · exact cond_f (by simp [c]) ⟨l.length + 1, eqS_loop hl c _ 0 (by omega) (by omega) hK⟩
  · rw [eqL_len c] at hK; exact cond_t (by simp; omega) hK
def eqT : Tree → Tree → Bool
  | f :: r, g :: s => (f.1.toList == g.1.toList) && (eqL f.2 g.2 && eqT r s)
  | [], [] => true
  | _, _ => false
theorem eqT_len : ∀ {a b : Tree}, a.length ≠ b.length → eqT a b = false
  | [], [], h => absurd rfl h
  | [], _ :: _, _ => rfl
  | _ :: _, [], _ => rfl
  | f :: r, g :: s, h => by
    have : r.length ≠ s.length := fun e => h (by simp [e])
    rw [eqT, eqT_len this, Bool.and_false, Bool.and_false]
theorem eqT_loop {a b : Tree} (hl : a.length ≤ 1000) (ha : ∀ f, f ∈ a → f.2.length ≤ 1000) (he : a.length = b.length) {K : Bool → Prop} : ∀ (fu i : Nat), i ≤ a.length → a.length - i < fu → K (eqT (a.drop i) (b.drop i)) → L.b9_L1_R a b fu (i : Int) (K true) K
  | 0, i, _, h, _ => by omega
  | fu + 1, i, hi, h, hK => by
    show L.b9_L1_b _ _ _ _ _ _
    unfold L.b9_L1_b
    rcases Nat.lt_or_ge i a.length with g | g
    · have hm := ha _ (getD_mem noFile g)
      rw [drop_cons noFile g, drop_cons noFile (show i < b.length by omega), eqT] at hK
      have es : i64 ((i : Int) + 1) = ((i + 1 : Nat) : Int) := by rw [i64_id (by omega) (by omega)]; omega
      rw [es]
      refine cond_t (by simp; omega) ⟨inB_of (by omega) (by omega), inB_of (by omega) (by omega), fun _ => inB_of (by omega) (by omega), fun _ => inB_of (by omega) (by omega), ?_⟩
      rw [Int.toNat_natCast]
      cases c : ((a.getD i noFile).1.toList == (b.getD i noFile).1.toList) with
      | false =>
        rw [c] at hK
        exact cond_f rfl hK
      | true =>
        rw [c, Bool.true_and] at hK
        refine cond_t rfl (eqS_ok hm ?_)
        cases d : eqL (a.getD i noFile).2 (b.getD i noFile).2 with
        | false => rw [d] at hK; exact cond_t rfl hK
        | true => rw [d] at hK; exact cond_f rfl (eqT_loop hl ha he fu (i + 1) g (by omega) hK)
    · rw [List.drop_eq_nil_of_le g, List.drop_eq_nil_of_le (by omega)] at hK
      exact cond_f (by simp; omega) hK
theorem eqT_ok {a b : Tree} (hl : a.length ≤ 1000) (ha : ∀ f, f ∈ a → f.2.length ≤ 1000) {K : Bool → Prop} (hK : K (eqT a b)) : L.b9 a b K := by
  constructor
  unfold L.b9_B
  by_cases c : a.length = b.length
  · exact cond_f (by simp [c]) ⟨a.length + 1, eqT_loop hl ha c _ 0 (by omega) (by omega) hK⟩
  · rw [eqT_len c] at hK; exact cond_t (by simp; omega) hK
theorem eqL_eq : ∀ {a b : Txt}, eqL a b = true → a = b
  | [], [], _ => rfl
  | [], _ :: _, h => by cases h
  | _ :: _, [], h => by cases h
  | x :: a, y :: b, h => by
    rw [eqL, Bool.and_eq_true] at h
    rw [eqb_eq (show eqb x y = true from h.1), eqL_eq h.2]
theorem eqT_eq : ∀ {a b : Tree}, eqT a b = true → a = b
  | [], [], _ => rfl
  | [], _ :: _, h => by cases h
  | _ :: _, [], h => by cases h
  | f :: a, g :: b, h => by
    rw [eqT, Bool.and_eq_true, Bool.and_eq_true] at h
    rw [eqT_eq h.2.2, Prod.ext (eqb_eq (show eqb f.1 g.1 = true from h.1)) (eqL_eq h.2.1)]
abbrev exH : List Hunk := [(0, ([L.str3], [L.str4]))]
theorem works_ok {K : Bool → Prop} (hK : K true) : L.d8 K := by
  constructor
  unfold L.d8_B
  have h1 : tpA exH [L.str3] = ([L.str4], (0, 0)) := by decide +kernel
  have h2 : ap [(4, (L.str5, (L.str1, ([], exH))))] [(L.str5, [L.str3])] = ([(L.str5, [L.str4])], (0, 0)) := by decide +kernel
  refine tpA_ok ?_
  rw [h1]
  constructor
  unfold L.d6_B
  refine ap_ok ?_
  rw [h2]
  have e1 : eqL [L.str4] [L.str4] = true := eqL_refl _
  have e2 : eqT [(L.str5, [L.str4])] [(L.str5, [L.str4])] = true := by decide +kernel
  refine cond_t rfl (eqS_ok (by decide) ?_)
  rw [e1]
  refine cond_t rfl (eqT_ok (by decide) (by simp) ?_)
  rw [e2]
  exact hK
theorem digests_true {a b : Tree} (K : Bool → Prop) (hK : K true) : L.e9 a b K := by
  constructor
  unfold L.e9_B
  refine df_ok ?_
  by_cases c : (df a b).1 = 0
  · have hd : val a = (0, 0) ∧ sec (val b) (-2) = (0, 0) ∧ (dp a b).length ≤ 30 := by
      unfold df at c
      by_cases c1 : val a ≠ (0, 0)
      · rw [if_pos c1] at c; exact absurd (val_zero c) c1
      rw [if_neg c1] at c
      by_cases c2 : sec (val b) (-2) ≠ (0, 0)
      · rw [if_pos c2] at c; exact absurd (sec_fst val_zero c) c2
      rw [if_neg c2] at c
      by_cases c3 : 30 < (dp a b).length
      · rw [if_pos c3] at c; simp at c
      exact ⟨Decidable.not_not.1 c1, Decidable.not_not.1 c2, by omega⟩
    obtain ⟨h1, h2, h3⟩ := hd
    have ha := val_vd h1
    have hb := val_vd (sec_zero val_zero h2)
    have e : df a b = (0, (0, dp a b)) := by
      unfold df
      rw [if_neg (fun g => g h1), if_neg (fun g => g h2), if_neg (by omega)]
    have hv := dp_valid ha hb h3
    have hap : ap (dp a b) a = (b, (0, 0)) := by
      unfold ap
      have hs : sec (val a) (-2) = (0, 0) := by unfold sec; rw [if_pos h1]
      rw [if_neg (fun g => g hv), if_neg (fun g => g hs)]
      exact dp_ap ha hb
    rw [e]
    refine cond_f rfl (ap_ok ?_)
    rw [hap]
    refine df_ok ?_
    rw [e]
    refine Ph.pd_ok hv (Ph.pd_ok hv ?_)
    refine cond_f rfl (cond_t (beq_self_eq_true _) (eqT_ok (by have := ha.len; omega) (fun f hf => by have := lin_len (ha.lin f hf); omega) ?_))
    refine cond_t ?_ (works_ok hK)
    cases d : eqT a b with
    | false => rfl
    | true =>
      obtain rfl := eqT_eq d
      rw [dp_self ha]
      rfl
  · exact cond_t (bne_iff_ne.2 c) (works_ok hK)
end Tp
theorem TopPatchDigestsAgree_true (xs : ArgDen [(true, (.slice L.ya)), (true, (.slice L.ya))]) (hw : WfAll _ xs) (K : Bool → Prop) (hK : K true) : L.e9 xs.1 xs.2.1 K :=
  Tp.digests_true K hK
end Go.Proofs.YtkpplfghhciacaaDoor
set_option maxRecDepth 100000
namespace Go.Proofs.YtkpplfghhciacaaDoor
open Eng Go.ChangeShapes Go.WideShapes Go.ChangeAt Go.RowKit
def TopPatchDigestsAgree_ps : List (Bool × Ty) := [(true, (.slice L.ya)), (true, (.slice L.ya))]
theorem TopPatchDigestsAgree_sem (xs : ArgDen TopPatchDigestsAgree_ps) (hw : WfAll TopPatchDigestsAgree_ps xs) (_ : false = true → bulkAll TopPatchDigestsAgree_ps xs ≤ 1048576) : L.e9_S (lawArgs TopPatchDigestsAgree_ps xs) isTrue := by
  have e : L.e9_S (lawArgs TopPatchDigestsAgree_ps xs) isTrue = L.e9 xs.1 xs.2.1 (fun r => isTrue (.x (.bool r)) []) := by kernel_rfl
  rw [e]
  exact TopPatchDigestsAgree_true xs hw _ rfl
theorem TopPatchDigestsAgree_own : ownKnob Tryd.prog.godebug = none := by kernel_rfl
theorem TopPatchDigestsAgree_laid : laidOutB Tryd.prog = true := by kernel_rfl
theorem TopPatchDigestsAgree_spec : LawSpec Rows.topPatchDigestsAgreeSpec Tryd.f4.params.toList.length where
  vars := rfl
  res := fun H ds h => by
    match ds, h with
    | [d1, d2], _ => rfl
  args := fun H ds h => by
    match ds, h with
    | [d1, d2], _ => rfl
  left := fun H ds h => by
    match ds, h with
    | [d1, d2], _ => rfl
theorem TopPatchDigestsAgree_lifted (os : Os) (started : os.Started) (H : Type) (enc : TypeId × Value → H) :
    ReturnsInHanded {} Tryd.checked os 4 .any (fun w args => (Rows.topPatchDigestsAgreeSpec.pre enc Tryd.prog Tryd.f4 Rows.topPatchDigestsAgreeRow.domain false w args ∧ laidMetH Tryd.prog Rows.topPatchDigestsAgreeRow.laid w) ∧ sizedMet enc Tryd.prog Tryd.f4 (OpenSpec.ofChange Rows.topPatchDigestsAgreeSpec) false w args)
      (Rows.topPatchDigestsAgreeSpec.post enc Tryd.prog Tryd.f4 false true false false) := by
  refine returnsInHanded_of_change_and (C := Tryd.checked) (X := fun w _ => laidMetH Tryd.prog Rows.topPatchDigestsAgreeRow.laid w) (fun _ _ _ hh h => h.of_heap hh) TopPatchDigestsAgree_own started (by kernel_rfl) Tryd.func4
    (ChangeSpec.witness_shaped (enc := enc) (C := Tryd.checked) (os := os) (X := fun w _ => laidMetH Tryd.prog Rows.topPatchDigestsAgreeRow.laid w) false (World.laidAll Tryd.prog os Rows.topPatchDigestsAgreeRow.laid) #[.agg #[.slice none 0 0], .agg #[.slice none 0 0]] 8 (World.laidAll_os _ _ _)
      (World.shaped_of_ZipB (by kernel_rfl) (by kernel_rfl)) (by kernel_rfl) (by kernel_rfl) (by kernel_rfl)
      (by rw [MakeChecks.laidMetH_plain _ _ _ (by kernel_rfl)]; exact laidMet_laidAll _ (by kernel_rfl) (by kernel_rfl))) ?_
  intro W base args ds gs before hval hW _ _ _ _
  exact law_contract (small := false) TopPatchDigestsAgree_laid (ps := TopPatchDigestsAgree_ps) (tb := 4) (by kernel_rfl) (by kernel_rfl) Tryd.underlying4 TopPatchDigestsAgree_spec L.e9_ok TopPatchDigestsAgree_sem hval hW (fun h => by cases h)
theorem TopPatchDigestsAgree_row : Rows.TopPatchDigestsAgreeSaid :=
  OpenClaim.holds_of_wide 4 Tryd.f4 rfl rfl rfl rfl rfl rfl rfl ⟨rfl, rfl, rfl, rfl, rfl⟩ rfl rfl rfl rfl rfl (by kernel_rfl) Tryd.func4 (by kernel_rfl)
    (of_decide_eq_true (by kernel_rfl)) (by unfold Func.isWrapper; first | (rw [if_pos (by decide +kernel)]; kernel_rfl) | (rw [if_neg (by decide +kernel)]; exact ⟨rfl, rfl⟩))
    (fun os started H enc _ => TopPatchDigestsAgree_lifted os started H enc)
theorem TopPatchDigestsAgree_holds : Rows.TopPatchDigestsAgreeCardSaid :=
  Claim7.holds_tied_plain_at .later [] [.data, .pinned] true (true, "c730edaa6fcadab92a3268725b98728bdd51ff68515c82eafde6bb6e46d1e04e") false TopPatchDigestsAgree_row (fun _ h => by cases h) (by kernel_rfl) (fun _ h => by cases h) topPatchDigestsAgree_row_tie rfl ⟨rfl, rfl⟩ (by kernel_rfl) rfl
    (fun f fn hf hfn => by
      obtain rfl : f = 4 := Option.some.inj ((show Tryd.prog.funcNamed "changeforge/changeforgetop.TopPatchDigestsAgree" = some 4 by kernel_rfl).symm.trans hf) |>.symm
      obtain rfl : fn = Tryd.f4 := (Option.some.inj (Tryd.func4.symm.trans hfn)).symm
      exact ⟨by kernel_rfl, fun j t ht => by
        rw [Tryd.params4] at ht
        have hm : t ∈ [41, 41] := by simpa using Array.mem_of_getElem? ht
        have hall : ([41, 41].all fun u => !Tryd.prog.wantsStandIn u) = true := by kernel_rfl
        exact (show Tryd.prog.wantsStandIn t = false by simpa using List.all_eq_true.1 hall t hm)⟩)
    (by kernel_rfl)
#print axioms TopPatchDigestsAgree_holds
end Go.Proofs.YtkpplfghhciacaaDoor

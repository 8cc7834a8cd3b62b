/-
  Landing: the laws of landing, of batches, of replays. Conditions: none.
-/
import Derived.Test.YtckiebnjeofhkaaDoorLaY
set_option linter.unusedVariables false
set_option linter.unusedSimpArgs false
namespace Go.Proofs.YtckiebnjeofhkaaDoor
open Eng Bb
namespace Tp

theorem addFile_ok {s : ByteArray} {K : Patch → Prop} (hK : K (pA s)) : L.law8_addFile_h21 s K := ⟨hK⟩

theorem big_small {cs : List (List Int)} (h : ∀ s, s ∈ cs → s.length ≤ 100) : ∀ s, s ∈ cs → big s.length := fun s hs => by have := h s hs; unfold big; omega

theorem example_ok {K : Bool → Prop} (hK : K true) : L.law8_landingExample K := by
  refine ⟨addFile_ok (addFile_ok (addFile_ok (Land_ok (ps := exP) (cs := [[2]]) (base := []) (big_small (by simp)) (fun h => absurd ex1.1 h) (fun _ _ _ _ codes hu => ?_))))⟩
  refine Batched_ok (ps := exP) (cs := []) (base := []) (big_small (by simp)) (fun h => absurd ex1.2 h) (fun _ h => by omega) (fun _ _ _ _ _ _ codes2 n hu2 hc => ?_)
  obtain ⟨u1, u2⟩ := hu
  obtain ⟨v1, v2⟩ := hu2
  obtain ⟨c0, c1, c2, c3, c4⟩ := hc
  obtain ⟨x0, x1, x2, x3⟩ := ex2
  obtain ⟨y0, y1, y2⟩ := ex3
  have l3 : exP.length = 3 := rfl
  rw [l3] at u1 u2 v1 v2 c2 c4 ⊢
  have g0 : codes.getD 0 0 = 0 := (u2 0 (by omega)).trans x0
  have g1 : codes.getD 1 0 ≠ 0 := by rw [u2 1 (by omega)]; exact x1
  have g2 : codes.getD 2 0 = 11 := (u2 2 (by omega)).trans x2
  have w2 : codes2.getD 2 0 = 0 := (v2 2 (by omega)).trans y0
  have hn : n = 1 := by
    have a1 := c2 rfl
    have a2 := c4 (fun e => y2 (by rw [e]))
    omega
  have z0 : (0 : Int).toNat = 0 := rfl
  have z1 : (1 : Int).toNat = 1 := rfl
  have z2 : (2 : Int).toNat = 2 := rfl
  have b1 : (codes.getD 1 0 != 0) = true := by simpa using g1
  rw [z0, z1, z2, g0, g2, w2, b1, x3, y1, u1, v1, hn]
  exact ⟨fun _ => inB_of (by omega) (by omega), fun _ => inB_of (by omega) (by omega), fun _ => inB_of (by omega) (by omega), fun _ => inB_of (by omega) (by omega), hK⟩

variable {ps : List Patch} {cs : List (List Int)} {base : Tree}

theorem fault_loop (hl : ps.length ≤ 12) {Q : Prop} {K : Int → Int → Prop} : ∀ (fu i : Nat), i ≤ ps.length → ps.length - i < fu → (psL i (ps.drop i) = (0, 0) → Q) → (psL i (ps.drop i) ≠ (0, 0) → K (psL i (ps.drop i)).1 (psL i (ps.drop i)).2) → L.law8_landingFault_L1_R ps fu i Q K
  | 0, i, _, h, _, _ => by omega
  | fu + 1, i, hi, h, hQ, hK => by
    show L.law8_landingFault_L1_b ps i _ _ _
    unfold L.law8_landingFault_L1_b
    rcases Nat.lt_or_ge i ps.length with g | g
    · rw [drop_cons ([] : Patch) g, psL] at hK hQ
      have hin : inB (i : Int) ps.length := inB_of (by omega) (by omega)
      refine cond_t (by simp; omega) ⟨hin, ?_⟩
      simp only [Int.toNat_natCast]
      refine vP_ok ?_
      by_cases c : sec (vP (ps.getD i [])) i ≠ (0, 0)
      · rw [if_pos c] at hK
        have c' : (vP (ps.getD i [])).1 ≠ 0 := fun e => c (by unfold sec; rw [if_pos (vP_zero e)])
        have e : sec (vP (ps.getD i [])) i = ((vP (ps.getD i [])).1, (i : Int)) := by unfold sec; rw [if_neg (fun e => c' (congrArg Prod.fst e))]
        have hk := hK c
        rw [e] at hk
        exact cond_t (by simpa using c') ⟨hin, vP_ok (Fault_ok hk)⟩
      · rw [if_neg c] at hK hQ
        have e := sec_zero vP_zero (Decidable.not_not.1 c)
        refine cond_f (by rw [e]; rfl) ?_
        rw [i64_id (by omega) (by omega)]
        exact fault_loop hl fu (i + 1) (by omega) (by omega) hQ hK
    · rw [List.drop_eq_nil_of_le g] at hQ
      exact cond_f (by simp; omega) (hQ rfl)

theorem fault_ok (hs : ∀ s, s ∈ cs → big s.length) {K : Int → Int → Prop} (hK : K (openF ps cs base).1 (openF ps cs base).2) : L.law8_landingFault base ps cs K := by
  refine ⟨val_ok ?_⟩
  unfold openF at hK
  by_cases c1 : sec (val base) (-2) ≠ (0, 0)
  · rw [if_pos c1] at hK
    have c' : (val base).1 ≠ 0 := fun e => c1 (by unfold sec; rw [if_pos (val_zero e)])
    have e : sec (val base) (-2) = ((val base).1, -2) := by unfold sec; rw [if_neg (fun e => c' (congrArg Prod.fst e))]
    rw [e] at hK
    exact cond_t (by simpa using c') (val_ok (Fault_ok hK))
  rw [if_neg c1] at hK
  have c1' := sec_zero val_zero (Decidable.not_not.1 c1)
  refine cond_f (by rw [c1']; rfl) ?_
  by_cases c2 : 12 < ps.length
  · rw [if_pos c2] at hK; exact cond_t (decide_eq_true (by omega)) (Fault_ok hK)
  rw [if_neg c2] at hK
  refine cond_f (decide_eq_false (by omega)) ⟨⟨ps.length + 1, fault_loop (by omega) _ 0 (by omega) (by omega) (fun hz => ?_) (fun hz => ?_)⟩⟩
  · rw [List.drop_zero] at hz
    rw [if_neg (fun h => h hz)] at hK
    refine CulpritsFault_ok hs ?_
    by_cases c4 : (vf ps.length cs).1 = 0
    · have e := vf_zero c4
      refine cond_f (by rw [c4]; rfl) ?_
      have e2 : sec (vf ps.length cs) (-3) = (0, 0) := by unfold sec; rw [if_pos e]
      rw [e2] at hK; exact hK
    · have e2 : sec (vf ps.length cs) (-3) = ((vf ps.length cs).1, -3) := by unfold sec; rw [if_neg (fun e => c4 (congrArg Prod.fst e))]
      rw [e2] at hK
      exact cond_t (by simpa using c4) (CulpritsFault_ok hs (Fault_ok hK))
  · rw [List.drop_zero] at hz ⊢
    rw [if_pos hz] at hK
    exact hK

theorem openF_code (h : (openF ps cs base).1 = 0) : openF ps cs base = (0, 0) := by
  unfold openF at h ⊢
  by_cases c1 : sec (val base) (-2) ≠ (0, 0)
  · rw [if_pos c1] at h; exact absurd (sec_fst val_zero h) c1
  rw [if_neg c1] at h ⊢
  by_cases c2 : 12 < ps.length
  · rw [if_pos c2] at h; simp at h
  rw [if_neg c2] at h ⊢
  have hps : ∀ (p : List Patch) (i : Nat), (psL i p).1 = 0 → psL i p = (0, 0) := by
    intro p
    induction p with
    | nil => intro i _; rfl
    | cons a r ih =>
      intro i h
      rw [psL] at h ⊢
      by_cases c : sec (vP a) i ≠ (0, 0)
      · rw [if_pos c] at h; exact absurd (sec_fst vP_zero h) c
      · rw [if_neg c] at h ⊢; exact ih _ h
  by_cases c3 : psL 0 ps ≠ (0, 0)
  · rw [if_pos c3] at h; exact absurd (hps _ _ h) c3
  rw [if_neg c3] at h ⊢
  exact sec_fst vf_zero h

theorem same2_loop {t : Tree} (ht : Inv t) {i : Nat} (hi : i < t.length) {Q : Prop} (hQ : Q) {K : Bool → Prop} : ∀ (fu k : Nat), k ≤ (t.getD i noFile).2.length → (t.getD i noFile).2.length - k < fu → L.law8_sameTrees_L2_R (i : Int) t t fu k Q K
  | 0, k, _, h => by omega
  | fu + 1, k, hk, h => by
    show L.law8_sameTrees_L2_b (i : Int) t t k _ _ _
    unfold L.law8_sameTrees_L2_b
    have hin : inB (i : Int) t.length := inB_of (by omega) (by omega)
    have hfl := (ht.2 _ (getD_mem noFile hi)).2
    refine ⟨hin, ?_⟩
    simp only [Int.toNat_natCast]
    rcases Nat.lt_or_ge k (t.getD i noFile).2.length with g | g
    · have hik : inB (k : Int) (t.getD i noFile).2.length := inB_of (by omega) (by omega)
      refine cond_t (by simpa using g) ⟨hin, hik, hin, hik, cond_f (by simp) ?_⟩
      rw [i64_id (by omega) (by omega)]
      exact same2_loop ht hi hQ fu (k + 1) (by omega) (by omega)
    · exact cond_f (by simpa using g) hQ

theorem same_loop {t : Tree} (ht : Inv t) {Q : Prop} (hQ : Q) {K : Bool → Prop} : ∀ (fu i : Nat), i ≤ t.length → t.length - i < fu → L.law8_sameTrees_L1_R t t fu i Q K
  | 0, i, _, h => by omega
  | fu + 1, i, hi, h => by
    show L.law8_sameTrees_L1_b t t i _ _ _
    unfold L.law8_sameTrees_L1_b
    have h24 := ht.1
    rcases Nat.lt_or_ge i t.length with g | g
    · have hin : inB (i : Int) t.length := inB_of (by omega) (by omega)
      refine cond_t (by simpa using g) ⟨hin, hin, fun _ => hin, fun _ => hin, ?_⟩
      simp only [Int.toNat_natCast]
      have e : (bif (!((t.getD i noFile).1.toList == (t.getD i noFile).1.toList)) then true else (((t.getD i noFile).2.length : Int) != ((t.getD i noFile).2.length : Int))) = false := by simp
      refine cond_f e ⟨⟨(t.getD i noFile).2.length + 1, same2_loop ht g ?_ _ 0 (by omega) (by omega)⟩⟩
      rw [i64_id (by omega) (by omega)]
      exact same_loop ht hQ fu (i + 1) (by omega) (by omega)
    · exact cond_f (by simpa using g) hQ

theorem same_ok {t : Tree} (ht : Inv t) {K : Bool → Prop} (hK : K true) : L.law8_sameTrees t t K :=
  ⟨cond_f (by simp) ⟨⟨t.length + 1, same_loop ht hK _ 0 (by omega) (by omega)⟩⟩⟩

/-- One round of the specification. -/
theorem spec_round (hn : ps.length ≤ 12) (hl : big cs.length) (hs : ∀ s, s ∈ cs → big s.length) {codes : List Int} (hu : Upto ps cs base ps.length codes) {i : Nat} (hi : i < ps.length) {Kn : Tree → List Int → Prop} {Kr : Bool → Tree → Prop}
    (hK : Kn (S ps cs base (i + 1)).1 (S ps cs base (i + 1)).2) :
    L.law8_LandingLandMatchesSpec_J5 cs (i : Int) codes (S ps cs base i).1 (S ps cs base i).2 (at_ ps i (S ps cs base i).1).1 (at_ ps i (S ps cs base i).1).2.1 Kn Kr := by
  have hSl : (S ps cs base i).2.length ≤ i := S_len i
  have hin : inB (i : Int) codes.length := inB_of (by omega) (by rw [hu.1]; omega)
  have hc := hu.2 i hi
  have j7 : ∀ {want : Int} {t : Tree} {l : List Int}, want = code ps cs base i → Kn t l → L.law8_LandingLandMatchesSpec_J7 (i : Int) want codes t l Kn Kr := fun e hk => ⟨⟨hin, cond_f (by rw [Int.toNat_natCast, hc, e]; simp) hk⟩⟩
  refine ⟨?_⟩
  unfold code at j7
  rw [S] at hK
  by_cases c : (at_ ps i (S ps cs base i).1).2 = (0, 0)
  · have c' : (at_ ps i (S ps cs base i).1).2.1 = 0 := congrArg Prod.fst c
    rw [if_pos c] at j7
    refine cond_t (by rw [c']; rfl) (Landed_ok hl hs (by omega) ⟨?_⟩)
    cases c2 : fails cs ((S ps cs base i).2 ++ [(i : Int)]) with
    | true =>
      rw [if_neg (fun hh => by rw [c2] at hh; exact absurd hh.2 (by decide))] at hK
      rw [if_pos c2] at j7
      exact cond_t rfl ⟨cond_f rfl (j7 rfl hK)⟩
    | false =>
      rw [if_pos ⟨c, c2⟩] at hK
      rw [if_neg (by rw [c2]; decide)] at j7
      refine cond_f rfl ⟨cond_t (by rw [c']; rfl) ⟨by unfold fits; simp; omega, j7 c' hK⟩⟩
  · have c' : (at_ ps i (S ps cs base i).1).2.1 ≠ 0 := fun e => c (ap_zero e)
    rw [if_neg c] at j7
    rw [if_neg (fun hh => c hh.1)] at hK
    exact cond_f (by simpa using c') ⟨cond_f rfl ⟨cond_f (by simpa using c') (j7 rfl hK)⟩⟩

theorem spec_loop (hn : ps.length ≤ 12) (hl : big cs.length) (hs : ∀ s, s ∈ cs → big s.length) {codes : List Int} (hu : Upto ps cs base ps.length codes) {K : Tree → Prop} {Kr : Bool → Prop} (hK : K (S ps cs base ps.length).1) :
    ∀ (fu i : Nat), i ≤ ps.length → ps.length - i < fu → L.law8_LandingLandMatchesSpec_L1_R ps cs codes fu i (S ps cs base i).1 (S ps cs base i).2 K Kr
  | 0, i, _, h => by omega
  | fu + 1, i, hi, h => by
    show L.law8_LandingLandMatchesSpec_L1_b ps cs codes i (S ps cs base i).1 (S ps cs base i).2 _ _ _
    unfold L.law8_LandingLandMatchesSpec_L1_b
    rcases Nat.lt_or_ge i ps.length with g | g
    · refine cond_t (by simpa using g) ⟨inB_of (by omega) (by omega), ?_⟩
      have next := spec_loop hn hl hs hu (Kr := Kr) hK fu (i + 1) (by omega) (by omega)
      have e : i64 ((i : Int) + 1) = ((i + 1 : Nat) : Int) := by rw [i64_id (by omega) (by omega)]; omega
      simp only [Int.toNat_natCast]
      rw [e]
      have r := spec_round (base := base) hn hl hs hu g (Kn := fun t l => L.law8_LandingLandMatchesSpec_L1_R ps cs codes fu ((i + 1 : Nat) : Int) t l K Kr) (Kr := fun r5 _ => Kr r5) next
      exact ⟨ap_ok ⟨r, r⟩, ⟨ap_ok r, ap_ok r⟩, ap_ok r, ap_ok r⟩
    · obtain rfl : i = ps.length := by omega
      exact cond_f (by simp) hK

theorem spec_true (base : Tree) (ps : List Patch) (cs : List (List Int)) (hs : ∀ s, s ∈ cs → big s.length) (K : Bool → Prop) (hK : K true) : L.law8_LandingLandMatchesSpec base ps cs K := by
  refine ⟨Land_ok hs (fun ho => ?_) (fun ho hn hb hv codes hu => ?_)⟩
  · refine example_ok (cond_f rfl (fault_ok hs (cond_t (by have : (openF ps cs base).1 ≠ 0 := fun e => ho (openF_code e); simpa using this) ?_)))
    simpa using hK
  · refine example_ok (cond_f rfl (fault_ok hs (cond_f (by rw [ho]; rfl) ?_)))
    refine cond_f (by rw [hu.1]; simp) ⟨⟨ps.length + 1, spec_loop (base := base) hn (big_vf hv) hs hu (same_ok (S_inv hb _) hK) _ 0 (by omega) (by omega)⟩⟩


theorem upto_eq {a b : List Int} (ha : Upto ps cs base ps.length a) (hb : Upto ps cs base ps.length b) : a = b := by
  apply List.ext_getElem
  · rw [ha.1, hb.1]
  · intro i h1 h2
    have e1 := ha.2 i (by rw [← ha.1]; exact h1)
    have e2 := hb.2 i (by rw [← hb.1]; exact h2)
    rw [List.getD_eq_getElem?_getD, List.getElem?_eq_getElem h1, Option.getD_some] at e1
    rw [List.getD_eq_getElem?_getD, List.getElem?_eq_getElem h2, Option.getD_some] at e2
    rw [e1, e2]

theorem code_zero {k : Nat} (h : code ps cs base k = 0) : (at_ ps k (S ps cs base k).1).2 = (0, 0) ∧ S ps cs base (k + 1) = ((at_ ps k (S ps cs base k).1).1, (S ps cs base k).2 ++ [(k : Int)]) := by
  unfold code at h
  by_cases c : (at_ ps k (S ps cs base k).1).2 = (0, 0)
  · rw [if_pos c] at h
    cases c2 : fails cs ((S ps cs base k).2 ++ [(k : Int)]) with
    | true => rw [if_pos c2] at h; simp at h
    | false => exact ⟨c, by rw [S, if_pos ⟨c, c2⟩]⟩
  · rw [if_neg c] at h; exact absurd (ap_zero h) c

theorem code_other {k : Nat} (h : code ps cs base k ≠ 0) : S ps cs base (k + 1) = S ps cs base k := by
  unfold code at h
  by_cases c : (at_ ps k (S ps cs base k).1).2 = (0, 0)
  · rw [if_pos c] at h
    cases c2 : fails cs ((S ps cs base k).2 ++ [(k : Int)]) with
    | true => rw [S, if_neg (fun hh => by rw [c2] at hh; exact absurd hh.2 (by decide))]
    | false => rw [if_neg (by rw [c2]; decide)] at h; exact absurd rfl h
  · rw [S, if_neg (fun hh => c hh.1)]

theorem agree_true (base : Tree) (ps : List Patch) (cs : List (List Int)) (size : Int) (hs : ∀ s, s ∈ cs → big s.length) (K : Bool → Prop) (hK : K true) : L.law8_LandingBatchesAgree base ps cs size K := by
  refine ⟨Land_ok hs (fun ho => ?_) (fun ho hn hb hv codes hu => ?_)⟩
  · have hc : (openF ps cs base).1 ≠ 0 := fun e => ho (openF_code e)
    refine Batched_ok hs (fun _ => ?_) (fun h => absurd h ho) (fun h => absurd h ho)
    refine example_ok (cond_f rfl (cond_t (by simpa using hc) ?_))
    simpa using hK
  · refine Batched_ok hs (fun h => absurd ho h) (fun _ hsz => ?_) (fun _ h1 h2 _ _ _ codes2 n hu2 _ => ?_)
    · refine example_ok (cond_f rfl (cond_f rfl (cond_t (by simp only [bor, Bool.or_eq_true, decide_eq_true_eq]; omega) (Fault_ok ?_))))
      simpa using hK
    · refine example_ok (cond_f rfl (cond_f rfl (cond_f (by simp only [bor, Bool.or_eq_false_iff, decide_eq_false_iff_not]; omega) (cond_t rfl (same_ok (S_inv hb _) (cond_t rfl (Equal_ok (by unfold big; rw [hu.1]; omega) ?_)))))))
      rw [upto_eq hu hu2]
      simpa using hK

theorem replay_loop (hn : ps.length ≤ 12) {codes : List Int} (hu : Upto ps cs base ps.length codes) {K : Tree → Prop} {Kr : Bool → Prop} (hK : K (S ps cs base ps.length).1) :
    ∀ (fu i : Nat), i ≤ ps.length → ps.length - i < fu → L.law8_LandingReplays_L1_R ps codes fu i (S ps cs base i).1 K Kr
  | 0, i, _, h => by omega
  | fu + 1, i, hi, h => by
    show L.law8_LandingReplays_L1_b ps codes i (S ps cs base i).1 _ _ _
    unfold L.law8_LandingReplays_L1_b
    rcases Nat.lt_or_ge i ps.length with g | g
    · have e : i64 ((i : Int) + 1) = ((i + 1 : Nat) : Int) := by rw [i64_id (by omega) (by omega)]; omega
      have next := replay_loop hn hu (Kr := Kr) hK fu (i + 1) (by omega) (by omega)
      refine cond_t (by rw [hu.1]; simpa using g) ⟨inB_of (by omega) (by rw [hu.1]; omega), ?_⟩
      simp only [Int.toNat_natCast]
      rw [hu.2 i g, e]
      by_cases c : code ps cs base i = 0
      · obtain ⟨c1, c2⟩ := code_zero c
        rw [c2] at next
        have r : L.law8_LandingReplays_J2 (at_ ps i (S ps cs base i).1).1 (at_ ps i (S ps cs base i).1).2.1 (fun t => L.law8_LandingReplays_L1_R ps codes fu ((i + 1 : Nat) : Int) t K Kr) Kr := ⟨cond_f (by rw [c1]; rfl) next⟩
        exact cond_f (by simp [c]) ⟨inB_of (by omega) (by omega), ap_ok ⟨r, r⟩, ⟨ap_ok r, ap_ok r⟩, ap_ok r, ap_ok r⟩
      · rw [code_other c] at next
        exact cond_t (by simpa using c) next
    · obtain rfl : i = ps.length := by omega
      exact cond_f (by rw [hu.1]; simp) hK

theorem replay_true (base : Tree) (ps : List Patch) (cs : List (List Int)) (hs : ∀ s, s ∈ cs → big s.length) (K : Bool → Prop) (hK : K true) : L.law8_LandingReplays base ps cs K := by
  refine ⟨Land_ok hs (fun ho => ?_) (fun ho hn hb hv codes hu => ?_)⟩
  · have hc : (openF ps cs base).1 ≠ 0 := fun e => ho (openF_code e)
    exact example_ok (cond_f rfl (cond_t (by simpa using hc) hK))
  · exact example_ok (cond_f rfl (cond_f rfl ⟨⟨ps.length + 1, replay_loop (base := base) hn hu (same_ok (S_inv hb _) hK) _ 0 (by omega) (by omega)⟩⟩))

theorem landed_loop (hn : ps.length ≤ 12) {codes : List Int} (hu : Upto ps cs base ps.length codes) {K : List Int → Prop} (hK : K (S ps cs base ps.length).2) :
    ∀ (fu i : Nat), i ≤ ps.length → ps.length - i < fu → L.law8_landedOf_L1_R codes fu i (S ps cs base i).2 K
  | 0, i, _, h => by omega
  | fu + 1, i, hi, h => by
    show L.law8_landedOf_L1_b codes i (S ps cs base i).2 _ _
    unfold L.law8_landedOf_L1_b
    rcases Nat.lt_or_ge i ps.length with g | g
    · have e : i64 ((i : Int) + 1) = ((i + 1 : Nat) : Int) := by rw [i64_id (by omega) (by omega)]; omega
      have next := landed_loop hn hu hK fu (i + 1) (by omega) (by omega)
      have hSl : (S ps cs base i).2.length ≤ i := S_len i
      refine cond_t (by rw [hu.1]; simpa using g) ⟨inB_of (by omega) (by rw [hu.1]; omega), ?_⟩
      simp only [Int.toNat_natCast]
      rw [hu.2 i g, e]
      by_cases c : code ps cs base i = 0
      · rw [(code_zero c).2] at next
        exact cond_t (by simpa using c) ⟨by unfold fits; simp; omega, next⟩
      · rw [code_other c] at next
        exact cond_f (by simpa using c) next
    · obtain rfl : i = ps.length := by omega
      exact cond_f (by rw [hu.1]; simp) hK

theorem landed_ok (hn : ps.length ≤ 12) {codes : List Int} (hu : Upto ps cs base ps.length codes) {K : List Int → Prop} (hK : K (S ps cs base ps.length).2) : L.law8_landedOf codes K :=
  ⟨⟨⟨ps.length + 1, landed_loop hn hu hK _ 0 (by omega) (by omega)⟩⟩⟩

theorem landed_nil {K : List Int → Prop} (hK : K []) : L.law8_landedOf [] K := by
  refine ⟨⟨⟨1, ?_⟩⟩⟩
  show L.law8_landedOf_L1_b [] 0 [] _ _
  unfold L.law8_landedOf_L1_b
  exact cond_f rfl hK

theorem lc_of {n : Int} : ∀ {s : List Int} {p : Int}, (∀ k, k ∈ s → 0 ≤ k ∧ k < n ∧ p < k) → s.Pairwise (· < ·) → lc n p s = 0
  | [], _, _, _ => rfl
  | a :: t, p, h, hp => by
    have ha := h a (by simp)
    rw [lc, if_neg (by omega), if_neg (by omega)]
    have hq := List.pairwise_cons.mp hp
    refine lc_of (fun k hk => ?_) hq.2
    have := h k (by simp [hk]); have := hq.1 k hk; omega

theorem S_rising : ∀ k, (∀ j, j ∈ (S ps cs base k).2 → 0 ≤ j ∧ j < (k : Int)) ∧ (S ps cs base k).2.Pairwise (· < ·)
  | 0 => ⟨fun j hj => absurd hj (List.not_mem_nil), List.Pairwise.nil⟩
  | k + 1 => by
    obtain ⟨h1, h2⟩ := S_rising k
    rw [S]
    split
    · refine ⟨fun j hj => ?_, List.pairwise_append.2 ⟨h2, List.pairwise_singleton _ _, fun a ha b hb => ?_⟩⟩
      · rcases List.mem_append.1 hj with hj | hj
        · have := h1 j hj; omega
        · rw [List.mem_singleton.1 hj]; omega
      · rw [List.mem_singleton.1 hb]; exact (h1 a ha).2
    · exact ⟨fun j hj => by have := h1 j hj; omega, h2⟩

theorem S_pass {n : Int} (hg : good n cs) : ∀ k, fails cs (S ps cs base k).2 = false
  | 0 => fails_nil hg
  | k + 1 => by
    rw [S]
    split
    · rename_i c; exact c.2
    · exact S_pass hg k

theorem pass_loop (hn : ps.length ≤ 12) (hs : ∀ s, s ∈ cs → big s.length) (hv : vf ps.length cs = (0, 0)) {K : Bool → Prop} (hK : K true) :
    ∀ (fu k : Nat), k ≤ (S ps cs base ps.length).2.length + 1 → (S ps cs base ps.length).2.length + 1 - k < fu → L.law8_LandingMainLinePasses_L1_R ps cs 0 (S ps cs base ps.length).2 fu k (K true) K
  | 0, k, _, h => by omega
  | fu + 1, k, hk, h => by
    show L.law8_LandingMainLinePasses_L1_b ps cs 0 (S ps cs base ps.length).2 k _ _ _
    unfold L.law8_LandingMainLinePasses_L1_b
    have hSl : (S ps cs base ps.length).2.length ≤ ps.length := S_len _
    by_cases g : k ≤ (S ps cs base ps.length).2.length
    · obtain ⟨r1, r2⟩ := S_rising (ps := ps) (cs := cs) (base := base) ps.length
      have e0 : (((S ps cs base ps.length).2.drop 0).take (k : Int).toNat) = (S ps cs base ps.length).2.take k := by rw [List.drop_zero, Int.toNat_natCast]
      rw [e0]
      refine cond_t (by simpa using g) ⟨by omega, Fails_ok hs (by unfold big; simp; omega) hv (lc_of (fun j hj => ?_) ?_) ?_⟩
      · have := r1 j (List.mem_of_mem_take hj); omega
      · exact List.Pairwise.sublist (List.take_sublist _ _) r2
      · have hp := S_pass (ps := ps) (base := base) (good_of hv) ps.length
        rw [← List.take_append_drop k (S ps cs base ps.length).2] at hp
        rw [fails_mono hp]
        refine cond_f rfl ?_
        rw [i64_id (by omega) (by omega)]
        exact pass_loop hn hs hv hK fu (k + 1) (by omega) (by omega)
    · exact cond_f (by simp; omega) hK

theorem pass_true (base : Tree) (ps : List Patch) (cs : List (List Int)) (hs : ∀ s, s ∈ cs → big s.length) (K : Bool → Prop) (hK : K true) : L.law8_LandingMainLinePasses base ps cs K := by
  refine ⟨Land_ok hs (fun ho => ?_) (fun ho hn hb hv codes hu => ?_)⟩
  · have hc : (openF ps cs base).1 ≠ 0 := fun e => ho (openF_code e)
    refine example_ok (cond_f rfl (landed_nil ⟨⟨1, cond_f ?_ hK⟩⟩))
    have : ((openF ps cs base).1 == 0) = false := by simpa using hc
    rw [this]; rfl
  · exact example_ok (cond_f rfl (landed_ok hn hu ⟨⟨(S ps cs base ps.length).2.length + 2, pass_loop hn hs hv hK _ 0 (by omega) (by omega)⟩⟩))

/-- How many outcomes are 0 or 11. -/
def appl (ps : List Patch) (cs : List (List Int)) (base : Tree) : Nat → Nat
  | 0 => 0
  | k + 1 => appl ps cs base k + (if code ps cs base k = 0 ∨ code ps cs base k = 11 then 1 else 0)

theorem able_le : ∀ k, able ps cs base k ≤ k ∧ able ps cs base k ≤ appl ps cs base k ∧ (S ps cs base k).2.length ≤ able ps cs base k
  | 0 => ⟨Nat.le_refl _, Nat.le_refl _, Nat.le_refl _⟩
  | k + 1 => by
    obtain ⟨h1, h2, h3⟩ := able_le k
    show able ps cs base k + (if (at_ ps k (S ps cs base k).1).2 = (0, 0) then 1 else 0) ≤ _ ∧ able ps cs base k + (if (at_ ps k (S ps cs base k).1).2 = (0, 0) then 1 else 0) ≤ appl ps cs base k + (if code ps cs base k = 0 ∨ code ps cs base k = 11 then 1 else 0) ∧ _ ≤ able ps cs base k + (if (at_ ps k (S ps cs base k).1).2 = (0, 0) then 1 else 0)
    by_cases c : (at_ ps k (S ps cs base k).1).2 = (0, 0)
    · have hc : code ps cs base k = 0 ∨ code ps cs base k = 11 := by
        unfold code; rw [if_pos c]; split <;> simp
      rw [if_pos c, if_pos hc]
      refine ⟨by omega, by omega, ?_⟩
      rw [S]
      split
      · simp; omega
      · omega
    · have eS : S ps cs base (k + 1) = S ps cs base k := by rw [S, if_neg (fun hh => c hh.1)]
      rw [if_neg c, eS]
      exact ⟨by omega, by split <;> omega, by omega⟩

theorem appl_le : ∀ k, appl ps cs base k ≤ k
  | 0 => Nat.le_refl _
  | k + 1 => by
    have : appl ps cs base k ≤ k := appl_le k
    show appl ps cs base k + (if code ps cs base k = 0 ∨ code ps cs base k = 11 then 1 else 0) ≤ _
    split <;> omega

theorem count_loop (hn : ps.length ≤ 12) {codes : List Int} (hu : Upto ps cs base ps.length codes) {K : Int → Prop} (hK : K (appl ps cs base ps.length : Nat)) :
    ∀ (fu i : Nat), i ≤ ps.length → ps.length - i < fu → L.law8_LandingCountsTests_L1_R codes fu (appl ps cs base i : Nat) i K
  | 0, i, _, h => by omega
  | fu + 1, i, hi, h => by
    show L.law8_LandingCountsTests_L1_b codes (appl ps cs base i : Nat) i _ _
    unfold L.law8_LandingCountsTests_L1_b
    rcases Nat.lt_or_ge i ps.length with g | g
    · have e : i64 ((i : Int) + 1) = ((i + 1 : Nat) : Int) := by rw [i64_id (by omega) (by omega)]; omega
      have next := count_loop hn hu hK fu (i + 1) (by omega) (by omega)
      have hle : appl ps cs base i ≤ i := appl_le i
      have hin : inB (i : Int) codes.length := inB_of (by omega) (by rw [hu.1]; omega)
      have ea : appl ps cs base (i + 1) = appl ps cs base i + (if code ps cs base i = 0 ∨ code ps cs base i = 11 then 1 else 0) := rfl
      refine cond_t (by rw [hu.1]; simpa using g) ⟨hin, fun _ => hin, ?_⟩
      simp only [Int.toNat_natCast]
      rw [hu.2 i g, e]
      by_cases c : code ps cs base i = 0 ∨ code ps cs base i = 11
      · rw [if_pos c] at ea
        rw [ea] at next
        refine cond_t (by simp only [bor, Bool.or_eq_true, beq_iff_eq]; exact c) ?_
        rw [i64_id (by omega) (by omega)]
        exact next
      · rw [if_neg c] at ea
        rw [ea] at next
        exact cond_f (by simp only [bor, Bool.or_eq_false_iff, beq_eq_false_iff_ne]; omega) next
    · obtain rfl : i = ps.length := by omega
      exact cond_f (by rw [hu.1]; simp) hK

theorem any_ok (hs : ∀ s, s ∈ cs → big s.length) {size : Int} {K : Int → Int → Int → Tree → List Int → Prop} (h : ∀ a b c d e, K a b c d e) : L.landing_Batched_h22 base ps cs size K :=
  Batched_ok hs (fun _ => h _ _ _ _ _) (fun _ _ => h _ _ _ _ _) (fun _ _ _ _ _ _ _ _ _ _ => h _ _ _ _ _)

theorem counts_true (base : Tree) (ps : List Patch) (cs : List (List Int)) (size : Int) (hs : ∀ s, s ∈ cs → big s.length) (K : Bool → Prop) (hK : K true) : L.law8_LandingCountsTests base ps cs size K := by
  have skip : ∀ {a b c : Int}, a ≠ 0 ∨ b ≠ 0 ∨ c ≠ 0 → ∀ {q : Prop}, (bif (bif (bif (a != 0) then true else (b != 0)) then true else (c != 0)) then K true else q) := fun h q => by
    refine cond_t ?_ hK
    simp only [bor, Bool.or_eq_true, bne_iff_ne]
    rcases h with h | h | h
    · exact .inl (.inl h)
    · exact .inl (.inr h)
    · exact .inr h
  have hnil : ∀ s, s ∈ ([] : List (List Int)) → big s.length := fun s h => by cases h
  refine ⟨Batched_ok hnil (fun ho => ?_) (fun _ _ => ?_) (fun ho z1 z2 hn hb hv0 codes0 n0 hu0 hc0 => ?_)⟩
  · have hc : (openF ps [] base).1 ≠ 0 := fun e => ho (openF_code e)
    exact any_ok hs (fun _ _ _ _ _ => any_ok hs (fun _ _ _ _ _ => example_ok (cond_f rfl (skip (.inl hc)))))
  · exact any_ok hs (fun _ _ _ _ _ => any_ok hs (fun _ _ _ _ _ => example_ok (cond_f rfl (skip (.inl (by decide))))))
  refine Batched_ok hs (fun ho1 => ?_) (fun _ h => by omega) (fun ho1 _ _ _ _ hv codes1 n1 hu1 hc1 => ?_)
  · have hc : (openF ps cs base).1 ≠ 0 := fun e => ho1 (openF_code e)
    exact any_ok hs (fun _ _ _ _ _ => example_ok (cond_f rfl (skip (.inr (.inl hc)))))
  refine Batched_ok hs (fun ho2 => absurd ho1 ho2) (fun _ h => by omega) (fun _ _ _ _ _ _ codes2 n2 hu2 hc2 => ?_)
  obtain ⟨a0, a1, a2, a3, a4⟩ := hc0
  obtain ⟨b0, b1, b2, b3, b4⟩ := hc1
  obtain ⟨d0, d1, d2, d3, d4⟩ := hc2
  obtain ⟨q1, q2, q3⟩ := able_le (ps := ps) (cs := cs) (base := base) ps.length
  have hle : appl ps cs base ps.length ≤ ps.length := appl_le _
  have e1 := b3 rfl
  have f1 := a2 rfl
  have f0 : 0 ≤ n0 * size := Int.mul_nonneg a0 (by omega)
  refine example_ok (cond_f rfl (cond_f rfl ⟨⟨ps.length + 1, count_loop (base := base) hn hu1 ?_ _ 0 (by omega) (by omega)⟩⟩))
  have i1 : i64 (n0 * size) = n0 * size := i64_id (by omega) (by omega)
  have i2 : i64 ((ps.length : Int) + size) = (ps.length : Int) + size := i64_id (by omega) (by omega)
  have i3 : i64 ((ps.length : Int) + size - 1) = (ps.length : Int) + size - 1 := i64_id (by omega) (by omega)
  have i4 : i64 ((2 : Int) * (ps.length : Int)) = 2 * (ps.length : Int) := i64_id (by omega) (by omega)
  rw [i1, i2, i3, i4]
  refine cond_t (by rw [decide_eq_true (by omega), decide_eq_true (by omega)]; rfl) (landed_ok hn hu1 ?_)
  rw [decide_eq_true (by omega), decide_eq_true (by omega), decide_eq_true (by omega)]
  exact hK

end Tp

theorem LandingBatchesAgree_true (xs : ArgDen [(true, (.slice (.pair .str (.slice .str)))), (false, (.slice (.slice (.pair (.int .i64) (.pair .str (.pair .str (.pair (.slice .str) (.slice (.pair (.int .i64) (.pair (.slice .str) (.slice .str))))))))))), (false, (.slice (.slice (.int .i64)))), (false, (.int .i64))]) (hw : WfAll _ xs) (K : Bool → Prop) (hK : K true) : L.law8_LandingBatchesAgree xs.1 xs.2.1 xs.2.2.1 xs.2.2.2.1 K :=
  Tp.agree_true _ _ _ _ (fun s hs => big_of (hw.2.2.1.2 s hs).1) K hK
theorem LandingReplays_true (xs : ArgDen [(true, (.slice (.pair .str (.slice .str)))), (false, (.slice (.slice (.pair (.int .i64) (.pair .str (.pair .str (.pair (.slice .str) (.slice (.pair (.int .i64) (.pair (.slice .str) (.slice .str))))))))))), (false, (.slice (.slice (.int .i64))))]) (hw : WfAll _ xs) (K : Bool → Prop) (hK : K true) : L.law8_LandingReplays xs.1 xs.2.1 xs.2.2.1 K :=
  Tp.replay_true _ _ _ (fun s hs => big_of (hw.2.2.1.2 s hs).1) K hK
theorem LandingMainLinePasses_true (xs : ArgDen [(true, (.slice (.pair .str (.slice .str)))), (false, (.slice (.slice (.pair (.int .i64) (.pair .str (.pair .str (.pair (.slice .str) (.slice (.pair (.int .i64) (.pair (.slice .str) (.slice .str))))))))))), (false, (.slice (.slice (.int .i64))))]) (hw : WfAll _ xs) (K : Bool → Prop) (hK : K true) : L.law8_LandingMainLinePasses xs.1 xs.2.1 xs.2.2.1 K :=
  Tp.pass_true _ _ _ (fun s hs => big_of (hw.2.2.1.2 s hs).1) K hK
theorem LandingCountsTests_true (xs : ArgDen [(true, (.slice (.pair .str (.slice .str)))), (false, (.slice (.slice (.pair (.int .i64) (.pair .str (.pair .str (.pair (.slice .str) (.slice (.pair (.int .i64) (.pair (.slice .str) (.slice .str))))))))))), (false, (.slice (.slice (.int .i64)))), (false, (.int .i64))]) (hw : WfAll _ xs) (K : Bool → Prop) (hK : K true) : L.law8_LandingCountsTests xs.1 xs.2.1 xs.2.2.1 xs.2.2.2.1 K :=
  Tp.counts_true _ _ _ _ (fun s hs => big_of (hw.2.2.1.2 s hs).1) K hK
end Go.Proofs.YtckiebnjeofhkaaDoor
